/- Walks: text.Of, Show. -/
import Derived.Stop.RegionWithIn
import Derived.Test.YtepddehodmljeaaO4
import Derived.Test.YtepddehodmljeaaI4
namespace Go.Proofs.Ytepddehodmljeaa
open Go.RowKit Go.Maps Go.Shelf
attribute [local go_sem] Oper.semAt_some

theorem Try.inf9 : (Try.prog.info? 9).map (fun i => (i.zero, i.size, i.bytes)) = some (some (.string ⟨#[]⟩), 1, 16) := by kernel_rfl
theorem Try.underlying199 : Try.prog.underlying 199 = some (.slice 9) := by kernel_rfl

theorem slice_ltr (s : Int) (h1 : -8 ≤ s) (h2 : s < 6) (W : World) :
    (Instr.slice 9 (.string ⟨#[115, 114, 113, 112, 119, 122, 121, 120, 97, 98, 103, 104, 102, 107]⟩) (some (.int .i64 (s + 8))) (some (.int .i64 (s + 8 + 1))) none).run Try.prog W = .ok (.string ⟨#[ltr s]⟩) W := by
  have h : s = -8 ∨ s = -7 ∨ s = -6 ∨ s = -5 ∨ s = -4 ∨ s = -3 ∨ s = -2 ∨ s = -1 ∨ s = 0 ∨ s = 1 ∨ s = 2 ∨ s = 3 ∨ s = 4 ∨ s = 5 := by omega
  rcases h with rfl | rfl | rfl | rfl | rfl | rfl | rfl | rfl | rfl | rfl | rfl | rfl | rfl | rfl <;> (refine Eq.trans ?_ rfl; kernel_rfl)

def txB (x : Tm) : ByteArray := ⟨x.txt.toArray⟩
theorem join_two (a b : List UInt8) : Lib.join [a, b] [44] = a ++ 44 :: b := by simp [Lib.join]
theorem join_one (a : List UInt8) : Lib.join [a] [44] = a := by simp [Lib.join]
theorem txt_parts (x : Tm) : x.txt = if x.parts = [] then [ltr x.sg] else ([ltr x.sg] ++ [40]) ++ (Lib.join (x.parts.map Tm.txt) [44]) ++ [41] := by
  cases x with
  | leaf s => rfl
  | un s a =>
    rw [if_neg (by simp [Tm.parts])]
    show _ = ([ltr s] ++ [40]) ++ Lib.join [a.txt] [44] ++ [41]
    rw [join_one]; simp [Tm.txt]
  | bin s a b =>
    rw [if_neg (by simp [Tm.parts])]
    show _ = ([ltr s] ++ [40]) ++ Lib.join [a.txt, b.txt] [44] ++ [41]
    rw [join_two]; simp [Tm.txt]

theorem Of_round {n k : Nat} {W wo w1 : World} {v v1 u : Value} {xs : List Value} (hv : Boxed W (n + 1) 199 v) (hrow : W.ownsRow (n + 4) 9 1 v k xs) (hb : Below W.heap.size W wo)
    (hown' : w1.ownsRow (n + 4) 9 1 v1 (k + 1) (xs ++ [u])) (hgrow : (wo.alloc (.cells #[u] 9)).grownBy w1 v.ownBlock) :
    Boxed w1 (n + 1) 199 v ∧ Boxed (w1.setCell ⟨n + 1, 0, none⟩ v1) (n + 1) 199 v1 ∧ (w1.setCell ⟨n + 1, 0, none⟩ v1).ownsRow (n + 4) 9 1 v1 (k + 1) (xs ++ [u]) ∧ KeepsOthers W (w1.setCell ⟨n + 1, 0, none⟩ v1) ∧ Keeps (fun i => i = n + 1 ∨ n + 4 ≤ i) W (w1.setCell ⟨n + 1, 0, none⟩ v1) := by
  have hbs := hb.size
  have g0 : W.grownBy wo none := ⟨hb.os, hb.tape, hb.output, hb.size, fun k hk _ => hb.block k hk⟩
  have hv0 : Boxed wo (n + 1) 199 v := hv.kept g0 (by simp)
  have hr0 : wo.ownsRow (n + 4) 9 1 v k xs := ownsRow_keep hrow fun j hj => hb.block j (hrow.lt j hj).2
  have hv1 : Boxed w1 (n + 1) 199 v := (hv0.alloc _).kept hgrow (hv0.not_row (by decide) hr0)
  have hset : ∀ j, v1.ownBlock = some j → j ≠ n + 1 := fun j hj e => by have := (hown'.lt j hj).1; omega
  have hK1 : Keeps (fun i => i = n + 1 ∨ n + 4 ≤ i) W (w1.setCell ⟨n + 1, 0, none⟩ v1) := by
    refine ⟨(hgrow.os.trans rfl).trans hb.os, (hgrow.tape.trans rfl).trans hb.tape, (hgrow.output.trans rfl).trans hb.output, ?_, fun j hj hm => ?_⟩
    · have := hgrow.size; simp at this ⊢; omega
    · rw [Below.heap_setCell _ _ _ _ (fun e => hm (.inl e)), hgrow.block j (by simp; omega) (fun e => hm (.inr (hrow.lt j e.symm).1)), Below.heap_alloc _ _ _ (by omega), hb.block j hj]
  refine ⟨hv1, hv1.set _, ownsRow_keep hown' fun j hj => Below.heap_setCell _ _ _ _ (hset j hj), ?_, hK1⟩
  refine (((KeepsOthers.of_grownBy g0 fun _ _ e _ => by cases e).trans (KeepsOthers.alloc wo _)).trans (KeepsOthers.of_grownBy hgrow fun j o ej hj => ?_)).trans (KeepsOthers.setCell _ _ _)
  rcases (hr0.alloc (.cells #[u] 9)).2 with ⟨h1, _⟩ | ⟨g, cap, cur, h1, _, hgb, _⟩
  · rw [h1] at ej; simp [Value.ownBlock] at ej
  · rw [h1] at ej
    obtain rfl : g = j := by simpa [Value.ownBlock] using ej
    rw [hgb] at hj; cases hj; rfl

theorem step_app_in {F : Fence} {n : Nat} {P : Program} {w : World} {ops : Array Oper} {o : Oper} {a : Act} {K : Act → World → Prop} {Q : Exit → Act → World → Prop} {E : Prop} (s x : Operand) (t : TypeId) (hg : o.guard = none)
    (hop : o.op = Op.call { callee := Callee.builtin Builtin.append, args := #[s, x], argTypes := #[t, t] })
    (base : Nat) (e : TypeId) (i : TypeInfo) (z : Value) (size bytes : Nat) (h1 : P.underlying t = some (.slice e)) (h2 : P.info? e = some i) (h3 : i.zero = some z) (h4 : i.size = size) (h5 : i.bytes = bytes) (h6 : z.cells.size = size) (h7 : 0 < size)
    (v : Value) (k : Nat) (xs : List Value) (hs : a.eval s = v) (hown : w.ownsRow base e size v k xs) (ad : Addr) (m c : Nat) (news : List Value) (hx : a.eval x = .slice (some ad) m c) (hn : news.length = m * size)
    (hc : ∀ j u, news[j]? = some u → w.cell? (ad.add j) = some u) (h1c : ∀ u ∈ news, u.oneCell' = true) (b1 : k + m ≤ maxLen) (b2 : (k + m) * bytes ≤ 140737488355328) (b3 : base ≤ w.heap.size)
    (hK : ∀ v' w', w'.ownsRow base e size v' (k + m) (xs ++ news) → w.grownBy w' v.ownBlock → (v' = .slice none 0 0 ↔ v = .slice none 0 0 ∧ m = 0) → K (a.put o.dst v') w') :
    if Region.wanted o (yielded ops a.tmps) = true then Oper.wpIn F n P o a w K Q else E := by
  rw [if_pos (by simp [Region.wanted, hg])]
  obtain ⟨v', w', hrun, r1, r2, r3⟩ := run_append_own (P := P) w base t o.type e i z size bytes h1 h2 h3 h4 h5 h6 h7 v k xs hown ad m c news hn hc h1c b1 b2 b3
  unfold Oper.wpIn
  refine ⟨?_, ?_⟩
  · simp [Oper.about, hop, resolve, Target.leads, Sem.run_pure]
  · rw [Oper.semAt_plain F _ _ (by rw [hop]; intro c hc'; cases hc')]
    simp [execOp, hop, resolve, invoke, builtin, hs, hx, hrun, Result.andThen]
    exact hK v' w' r1 r2 r3

/-- The text of the part at a place. -/
def txV (t : List Int) (y : Nat) : Value := .string ⟨((tmOf t).sub y).txt.toArray⟩
theorem chk_part {t : List Int} (ht : chk t = 0) {k : Nat} (hk : k < t.length) : chk (paT t k) = 0 ∧ tmOf (paT t k) = (tmOf t).sub k := by
  obtain ⟨h1, h2⟩ := tm_chk ht
  have hk' : k < (tmOf t).size := by rw [← size_flat, h2]; exact hk
  have h3 := (tm_at h1 hk').2.2
  rw [h2] at h3
  exact ⟨chk_paT ht hk, by rw [h3.1, tmOf_flat (sub_ok h1 hk')]⟩

/-- The parts' texts, as they lie. -/
theorem Of_row {t : List Int} (ht : chk t = 0) (hk : 0 < t.length) {ys : List (PsT t 0)} (h : ys.map (fun x => x.1) = psT t 0) : (ys.map fun y => txV t y.1) = (tmOf t).parts.map fun x => Value.string (txB x) := by
  have h1 := parts_ps ht hk
  rw [sub_zero] at h1
  have h2 : (ys.map fun y => txV t y.1) = (ys.map fun x => x.1).map (txV t) := by rw [List.map_map]; rfl
  rw [h2, h, h1, List.map_map]
  rfl
theorem Of_join {ps : List Tm} : Lib.join ((ps.map txB).map (·.data.toList)) [44] = Lib.join (ps.map Tm.txt) [44] := by
  rw [List.map_map]; rfl
theorem Of_cells {base n g c : Nat} {W : World} {ps : List Tm} (h : W.ownsRow base 9 1 (.slice (some ⟨g, 0, none⟩) n c) ps.length (ps.map fun x => Value.string (txB x))) :
    ∀ (j : Nat) x, (ps.map txB)[j]? = some x → W.cell? ⟨g, 0 + j, none⟩ = some (.string x) := fun j x hj => by
  have := World.ownsRow.cells h (g := g) rfl j (.string x) (by
    rw [List.getElem?_map] at hj ⊢
    cases hp : ps[j]? with
    | none => rw [hp] at hj; cases hj
    | some y => rw [hp] at hj; cases hj; rfl)
  rwa [Addr.add_lit] at this

set_option maxRecDepth 100000 in
set_option maxHeartbeats 4000000 in
theorem Of_step (t : List Int) (ht : chk t = 0) (v : Value) (w : World) (hv : IsInts Any w v t)
    (ih : ∀ k, k < t.length → 0 < k → ∀ u W, IsInts Any W u (paT t k) → Calls Try.prog 145 #[u] W fun e W' => e = .returned (.string ⟨((tmOf t).sub k).txt.toArray⟩) ∧ Below W.heap.size W W') :
    Calls Try.prog 145 #[v] w fun e w' => e = .returned (.string ⟨(tmOf t).txt.toArray⟩) ∧ Below w.heap.size w w' := by
  obtain ⟨i9, hi, hz, hsz, hby⟩ := info_parts Try.inf9
  have hne := ne_of_chk ht
  have hk0 : 0 < t.length := List.length_pos_iff.2 hne
  have hk0i : (0 : Int) < t.length := by omega
  have hs0 := signs_of_chk ht _ (nth_mem hk0)
  obtain ⟨ba, oa, ca, rfl⟩ := hv.cells hne
  have hc0 := (hv.below (below_alloc w (.cells #[.slice (some ⟨ba, oa, none⟩) t.length ca] 24))).cell hk0
  rw [Nat.add_zero] at hc0
  have hsl := slice_ltr (nth t 0) hs0.1 hs0.2
  have HT := Lib.hid (And.intro ht hk0)
  have HV := Lib.hid hv
  have HI := Lib.hid ih
  have hlen := len_of_chk ht
  have hsg : Hid ((tmOf t).sg = nth t 0) := by
    have h2 := (tm_chk ht).2
    have := sub_sg (x := tmOf t) (k := 0) (size_pos _)
    rw [h2, sub_zero] at this
    exact this.symm
  clear ht hv ih hne
  refine (callsIn_wide (n := 5)).1 ?_
  refine callsIn_of_wp_marks Try.func145 rfl trivial ?_ rfl
  simp only [Try.ntmps145, List.size_toArray, List.length_cons, List.length_nil, Nat.reduceAdd, Nat.reduceSub, Array.replicate_succ, Array.replicate_zero, List.push_toArray, List.append_toArray, List.nil_append, List.cons_append]
  gi_wp2_with fail
  gi_quiet (fail)
  gi_wp2_with fail
  refine ⟨trivial, (callsIn_wide.2 (Parts_calls (.slice (some ⟨ba, oa, none⟩) t.length ca) 0 _ rfl)).mono ?_⟩
  rintro e w' ⟨rfl, rfl⟩
  gi_wp2_with fail
  obtain ⟨W0, hW0⟩ : ∃ W0, W0 = (((((w.alloc (.cells #[.slice (some ⟨ba, oa, none⟩) t.length ca] 24)).drewN nq).alloc (.cells #[.slice none 0 0] 199)).alloc (.cells #[.slice (some ⟨ba, oa, none⟩) t.length ca] 24)).alloc (.cells #[.int .i64 0] 3)) := ⟨_, rfl⟩
  rw [← hW0]
  have hz0 : W0.heap.size = w.heap.size + 4 := by rw [hW0]; simp
  have hB0 : Below w.heap.size w W0 := by rw [hW0]; exact ext_alloc (ext_alloc (ext_alloc (ext_trans (below_alloc w _) (below_drewN _ _ nq)) _) _) _
  have b1 : Boxed W0 (w.heap.size + 1) 199 (.slice none 0 0) := by
    have := Boxed.new ((w.alloc (.cells #[.slice (some ⟨ba, oa, none⟩) t.length ca] 24)).drewN nq) 199 (.slice none 0 0)
    have h2 : ((w.alloc (.cells #[.slice (some ⟨ba, oa, none⟩) t.length ca] 24)).drewN nq).heap.size = w.heap.size + 1 := by simp
    rw [h2] at this
    rw [hW0]; exact (this.alloc _).alloc _
  have k0 : W0.cell? ⟨w.heap.size, 0, none⟩ = some (.slice (some ⟨ba, oa, none⟩) t.length ca) := by rw [hW0]; simp [go_sem]
  have k2 : W0.cell? ⟨w.heap.size + 1 + 1, 0, none⟩ = some (.slice (some ⟨ba, oa, none⟩) t.length ca) := by rw [hW0]; simp [go_sem]
  have k3 : W0.cell? ⟨w.heap.size + 1 + 1 + 1, 0, none⟩ = some (.int .i64 ((0 : Nat) : Int)) := by rw [hW0]; simp [go_sem]
  have har := ar_le (nth t 0)
  have hpsl := psT_len t 0
  clear hW0 hc0
  refine wpIn_rangeFunc_ownG rfl (by omega) (gf := 172) (lb := #[.pointer (some ⟨w.heap.size + 1 + 1 + 1, 0, none⟩), .pointer (some ⟨w.heap.size + 1 + 1, 0, none⟩)]) rfl trivial (enters_of Try.func172 (by kernel_rfl) rfl)
    (Parts_stopsM _ (by omega) (w.heap.size + 1 + 1 + 1) (w.heap.size + 1 + 1) (fun i => i = w.heap.size + 1 ∨ w.heap.size + 4 ≤ i) t HT.out.1 0 HT.out.2 _ W0 k3 k2 (by omega) (by omega) (by omega)
      (HV.out.mono ⟨hB0.size, fun b _ hb => ⟨by omega, hB0.block b hb⟩⟩)) Keeps.trans (keepsK_b (by intro l hl; omega)) (Below.refl _ _) (fun _ => rfl)
    (fun (pre : List (PsT t 0)) W => (∃ v, Boxed W (w.heap.size + 1) 199 v ∧ W.ownsRow (w.heap.size + 4) 9 1 v pre.length (pre.map fun y => txV t y.1) ∧ True) ∧ (W.cell? ⟨w.heap.size, 0, none⟩ = some (.slice (some ⟨ba, oa, none⟩) t.length ca) ∧ (Below w.heap.size w W ∧ w.heap.size + 4 ≤ W.heap.size)))
    (fun _ _ _ => False)
    (OwnFrom.and (Own.from (holdsRow_own (w.heap.size + 4) (w.heap.size + 1) 199 9 1 (fun pre : List (PsT t 0) => pre.length) (fun pre => pre.map fun y => txV t y.1) (fun _ _ => True)) _)
      (OwnFrom.and (Own.from (fun s A B row hs hg hr => cell_kept hs hg hr) _) (OwnFrom.and (ownFrom_below (Nat.le_refl _) (by omega)) (fun _ _ _ _ hs hg _ => Nat.le_trans hs hg.size))))
    (fun _ _ _ _ _ hs _ _ => hs)
    ⟨⟨_, b1, World.ownsRow_nil _ _ _ _, trivial⟩, k0, hB0, by omega⟩
    (fun y => { tmps := #[.slice (some ⟨ba, oa, none⟩) t.length ca, .pointer (some ⟨w.heap.size, 0, none⟩), .string ⟨#[]⟩, .string ⟨#[ltr (nth t 0)]⟩, .pointer (some ⟨w.heap.size + 1, 0, none⟩), .int .i64 y.1, .slice (some ⟨ba, oa, none⟩) t.length ca, .pointer (some ⟨ba, oa, none⟩), .int .i64 (nth t 0), .int .i64 (nth t 0 + 8), .slice (some ⟨ba, oa, none⟩) t.length ca, .pointer (some ⟨ba, oa, none⟩), .int .i64 (nth t 0), .int .i64 (nth t 0 + 8), .int .i64 (nth t 0 + 8 + 1), .string ⟨#[ltr (nth t 0)]⟩, .slice (some ⟨ba, oa, none⟩) t.length ca,
          .func (.func 172) #[] #[.pointer (some ⟨w.heap.size + 1 + 1 + 1, 0, none⟩), .pointer (some ⟨w.heap.size + 1 + 1, 0, none⟩)], .int .i64 y.1, undef, undef, undef, undef, undef, undef, undef, undef, undef, undef, undef, undef, undef, undef, undef, undef, undef], defers := [] }) ?assign ?body ?done ?stop
  case assign =>
    intro l x W K hK
    gi_wp2
    exact hK
  case body =>
    rintro l pre y W ⟨⟨v, hv, hrow, -⟩, hcell, hB, hsz4⟩ hlt
    have hcv : Hid (∀ W', Below W.heap.size W W' → W'.cell? ⟨w.heap.size + 1, 0, none⟩ = some v) := fun W' hb => (hb.cell (p := ⟨w.heap.size + 1, 0, none⟩) (by simp; omega)).trans hv.cell
    have hct : Hid (∀ W', Below W.heap.size W W' → W'.cell? ⟨w.heap.size, 0, none⟩ = some (.slice (some ⟨ba, oa, none⟩) t.length ca)) := fun W' hb => (hb.cell (p := ⟨w.heap.size, 0, none⟩) (by simp; omega)).trans hcell
    have hyl := ps_lt HT.out.1 HT.out.2 y.2
    have hp := part_at HT.out.1 hyl.1
    have hAt : Hid (∀ W', Below W.heap.size W W' → Calls Try.prog 117 #[.slice (some ⟨ba, oa, none⟩) t.length ca, .int .i64 y.1] W' fun e w' => ∃ u c, e = .returned (.slice u (paT t y.1).length c) ∧ IsInts Any W' (.slice u (paT t y.1).length c) (paT t y.1) ∧ W' = w') := fun W' hb => by
      refine (At_calls Any t (small_of_signs (signs_of_chk HT.out.1)) _ y.1 (enT t y.1) W' (HV.out.below (hB.trans (hb.mono hB.size))) hp.1 hp.2.1 hp.2.2.1).mono ?_
      rintro e w' ⟨u, rfl, hu, rfl⟩
      obtain ⟨a, c, rfl⟩ := hu.isSlice
      exact ⟨a, c, rfl, hu, rfl⟩
    obtain ⟨xb, hxb'⟩ : ∃ xb, txV t y.1 = .string xb := ⟨_, rfl⟩
    have hxb := Lib.hid hxb'
    have hOf : Hid (∀ W' u, IsInts Any W' u (paT t y.1) → Calls Try.prog 145 #[u] W' fun e w' => e = .returned (.string xb) ∧ Below W'.heap.size W' w') := fun W' u hu => by rw [← hxb']; exact HI.out y.1 hyl.1 hyl.2.1 u W' hu
    clear hxb'
    clear hp
    have hcd := hcv.out _ (below_drew _ W)
    have htd := hct.out _ (below_drew _ W)
    gi_wp2_with fail
    refine wpIn_region_any (by kernel_rfl) ?_
    change wpAnyIn _ _ _ _ _ _ _ _ _ (World.drew _)
    refine wpAnyIn_ready (rs := [0, 1, 2]) (by kernel_rfl) (by simp) ?_
    refine AllReadyIn.cons rfl (fun K0 hK0 => ?_) (AllReadyIn.cons rfl (fun K0 hK0 => ?_) (AllReadyIn.cons rfl (fun K0 hK0 => ?_) (AllReadyIn.nil)))
    · (try simp only [List.getElem_toArray, List.getElem_cons_zero])
      go_simp
      refine hK0 _ _ ?_
      clear hK0 K0
      try simp only [Act.put, List.getElem_toArray, List.getElem_cons_zero, List.getElem_cons_succ, List.setIfInBounds_toArray, List.set_cons_zero, List.set_cons_succ]
      refine wpAnyIn_ready (rs := [1, 2]) (by kernel_rfl) (by simp) ?_
      refine AllReadyIn.cons rfl (fun K0 hK0 => ?_) (AllReadyIn.cons rfl (fun K0 hK0 => ?_) (AllReadyIn.nil))
      · (try simp only [List.getElem_toArray, List.getElem_cons_zero, List.getElem_cons_succ])
        go_simp
        refine hK0 _ _ ?_
        clear hK0 K0
        try simp only [Act.put, List.getElem_toArray, List.getElem_cons_zero, List.getElem_cons_succ, List.setIfInBounds_toArray, List.set_cons_zero, List.set_cons_succ]
        refine wpAnyIn_ready (rs := [2]) (by kernel_rfl) (by simp) ?_
        refine AllReadyIn.cons rfl (fun K0 hK0 => ?_) (AllReadyIn.nil)
        (try simp only [List.getElem_toArray, List.getElem_cons_zero, List.getElem_cons_succ])
        go_simp
        refine hK0 _ _ ?_
        clear hK0 K0
        try simp only [Act.put, List.getElem_toArray, List.getElem_cons_zero, List.getElem_cons_succ, List.setIfInBounds_toArray, List.set_cons_zero, List.set_cons_succ]
        refine wpAnyIn_ready (rs := [3]) (by kernel_rfl) (by simp) ?_
        refine AllReadyIn.cons rfl (fun K0 hK0 => ?_) (AllReadyIn.nil)
        (try simp only [List.getElem_toArray, List.getElem_cons_zero, List.getElem_cons_succ])
        go_simp
        refine ⟨trivial, (CallsIn.inRound l (callsIn_wide.2 (hAt.out _ (below_drew _ W)))).mono ?_⟩
        rintro e wa ⟨u, c, rfl, hu, rfl⟩
        (try go_simp)
        refine hK0 _ _ ?_
        clear hK0 K0
        try simp only [Act.put, List.getElem_toArray, List.getElem_cons_zero, List.getElem_cons_succ, List.setIfInBounds_toArray, List.set_cons_zero, List.set_cons_succ]
        refine wpAnyIn_ready (rs := [4]) (by kernel_rfl) (by simp) ?_
        refine AllReadyIn.cons rfl (fun K0 hK0 => ?_) (AllReadyIn.nil)
        (try simp only [List.getElem_toArray, List.getElem_cons_zero, List.getElem_cons_succ])
        go_simp
        refine ⟨trivial, (CallsIn.inRound l (callsIn_wide.2 (hOf.out _ _ hu))).mono ?_⟩
        rintro e wo ⟨rfl, hbo⟩
        have hbW := Lib.hid (ext_trans (below_drew _ W) hbo)
        have hco := hcv.out _ hbW.out
        have hcl := hcv.out _ (ext_alloc hbW.out (.cells #[.string xb] 9))
        clear hu hbo
        (try go_simp)
        refine hK0 _ _ ?_
        clear hK0 K0
        try simp only [Act.put, List.getElem_toArray, List.getElem_cons_zero, List.getElem_cons_succ, List.setIfInBounds_toArray, List.set_cons_zero, List.set_cons_succ]
        refine wpAnyIn_ready (rs := [5]) (by kernel_rfl) (by simp) ?_
        refine AllReadyIn.cons rfl (fun K0 hK0 => ?_) (AllReadyIn.nil)
        (try simp only [List.getElem_toArray, List.getElem_cons_zero, List.getElem_cons_succ])
        go_simp
        refine hK0 _ _ ?_
        clear hK0 K0
        try simp only [Act.put, List.getElem_toArray, List.getElem_cons_zero, List.getElem_cons_succ, List.setIfInBounds_toArray, List.set_cons_zero, List.set_cons_succ]
        refine wpAnyIn_ready (rs := [6]) (by kernel_rfl) (by simp) ?_
        refine AllReadyIn.cons rfl (fun K0 hK0 => ?_) (AllReadyIn.nil)
        refine step_app_in _ _ 199 (by rfl) (by rfl) (w.heap.size + 4) 9 i9 (.string ⟨#[]⟩) 1 16 Try.underlying199 hi hz hsz hby rfl (by decide) v pre.length _ (by rfl) ((ownsRow_keep hrow fun j hj => hbW.out.block j (hrow.lt j hj).2).alloc (.cells #[.string xb] 9)) ⟨wo.heap.size, 0, none⟩ 1 1 [.string xb] (by rfl) rfl (cell_one_new _ _ _) (by simp [Value.oneCell']) (by unfold maxLen; omega) (by omega) (by have := hbW.out.size; simp; omega) ?_
        intro v1 w1 hown' hgrow _
        obtain ⟨g', cap', rfl⟩ := ownsRow_succ hown'
        have hF := Lib.hid (Of_round hv hrow hbW.out hown' hgrow)
        have hc1 := hF.out.1.cell
        have hf1 := hF.out.1.frozen
        clear hown' hgrow
        refine hK0 _ _ ?_
        clear hK0 K0
        try simp only [Act.put, List.getElem_toArray, List.getElem_cons_zero, List.getElem_cons_succ, List.setIfInBounds_toArray, List.set_cons_zero, List.set_cons_succ]
        refine wpAnyIn_ready (rs := [7]) (by kernel_rfl) (by simp) ?_
        refine AllReadyIn.cons rfl (fun K0 hK0 => ?_) (AllReadyIn.nil)
        (try simp only [List.getElem_toArray, List.getElem_cons_zero, List.getElem_cons_succ])
        go_simp
        refine hK0 _ _ ?_
        clear hK0 K0
        try simp only [Act.put, List.getElem_toArray, List.getElem_cons_zero, List.getElem_cons_succ, List.setIfInBounds_toArray, List.set_cons_zero, List.set_cons_succ]
        refine wpAnyIn_done (by kernel_rfl) ?_ _
        gi_wp2_with fail
        have hF2 := hF.out
        refine ⟨(hF2.2.2.2.1).from _, hF2.2.2.2.2, ⟨⟨_, hF2.2.1, by simpa [hxb.out] using hF2.2.2.1, trivial⟩, ?_, ?_, ?_⟩⟩
        · exact (World.cell?_of_block (w := W) (a := ⟨w.heap.size, 0, none⟩) (hF2.2.2.2.2.block w.heap.size (by omega) (by omega))).trans hcell
        · exact hB.trans ⟨hF2.2.2.2.2.os, hF2.2.2.2.2.tape, hF2.2.2.2.2.output, hF2.2.2.2.2.size, fun k hk => hF2.2.2.2.2.block k (by omega) (by omega)⟩
        · have := hF2.2.2.2.2.size; omega
      · (try simp only [List.getElem_toArray, List.getElem_cons_zero, List.getElem_cons_succ])
        go_simp
        refine hK0 _ _ ?_
        clear hK0 K0
        try simp only [Act.put, List.getElem_toArray, List.getElem_cons_zero, List.getElem_cons_succ, List.setIfInBounds_toArray, List.set_cons_zero, List.set_cons_succ]
        refine wpAnyIn_ready (rs := [1]) (by kernel_rfl) (by simp) ?_
        refine AllReadyIn.cons rfl (fun K0 hK0 => ?_) (AllReadyIn.nil)
        (try simp only [List.getElem_toArray, List.getElem_cons_zero, List.getElem_cons_succ])
        go_simp
        refine hK0 _ _ ?_
        clear hK0 K0
        try simp only [Act.put, List.getElem_toArray, List.getElem_cons_zero, List.getElem_cons_succ, List.setIfInBounds_toArray, List.set_cons_zero, List.set_cons_succ]
        refine wpAnyIn_ready (rs := [3]) (by kernel_rfl) (by simp) ?_
        refine AllReadyIn.cons rfl (fun K0 hK0 => ?_) (AllReadyIn.nil)
        (try simp only [List.getElem_toArray, List.getElem_cons_zero, List.getElem_cons_succ])
        go_simp
        refine ⟨trivial, (CallsIn.inRound l (callsIn_wide.2 (hAt.out _ (below_drew _ W)))).mono ?_⟩
        rintro e wa ⟨u, c, rfl, hu, rfl⟩
        (try go_simp)
        refine hK0 _ _ ?_
        clear hK0 K0
        try simp only [Act.put, List.getElem_toArray, List.getElem_cons_zero, List.getElem_cons_succ, List.setIfInBounds_toArray, List.set_cons_zero, List.set_cons_succ]
        refine wpAnyIn_ready (rs := [4]) (by kernel_rfl) (by simp) ?_
        refine AllReadyIn.cons rfl (fun K0 hK0 => ?_) (AllReadyIn.nil)
        (try simp only [List.getElem_toArray, List.getElem_cons_zero, List.getElem_cons_succ])
        go_simp
        refine ⟨trivial, (CallsIn.inRound l (callsIn_wide.2 (hOf.out _ _ hu))).mono ?_⟩
        rintro e wo ⟨rfl, hbo⟩
        have hbW := Lib.hid (ext_trans (below_drew _ W) hbo)
        have hco := hcv.out _ hbW.out
        have hcl := hcv.out _ (ext_alloc hbW.out (.cells #[.string xb] 9))
        clear hu hbo
        (try go_simp)
        refine hK0 _ _ ?_
        clear hK0 K0
        try simp only [Act.put, List.getElem_toArray, List.getElem_cons_zero, List.getElem_cons_succ, List.setIfInBounds_toArray, List.set_cons_zero, List.set_cons_succ]
        refine wpAnyIn_ready (rs := [5]) (by kernel_rfl) (by simp) ?_
        refine AllReadyIn.cons rfl (fun K0 hK0 => ?_) (AllReadyIn.nil)
        (try simp only [List.getElem_toArray, List.getElem_cons_zero, List.getElem_cons_succ])
        go_simp
        refine hK0 _ _ ?_
        clear hK0 K0
        try simp only [Act.put, List.getElem_toArray, List.getElem_cons_zero, List.getElem_cons_succ, List.setIfInBounds_toArray, List.set_cons_zero, List.set_cons_succ]
        refine wpAnyIn_ready (rs := [6]) (by kernel_rfl) (by simp) ?_
        refine AllReadyIn.cons rfl (fun K0 hK0 => ?_) (AllReadyIn.nil)
        refine step_app_in _ _ 199 (by rfl) (by rfl) (w.heap.size + 4) 9 i9 (.string ⟨#[]⟩) 1 16 Try.underlying199 hi hz hsz hby rfl (by decide) v pre.length _ (by rfl) ((ownsRow_keep hrow fun j hj => hbW.out.block j (hrow.lt j hj).2).alloc (.cells #[.string xb] 9)) ⟨wo.heap.size, 0, none⟩ 1 1 [.string xb] (by rfl) rfl (cell_one_new _ _ _) (by simp [Value.oneCell']) (by unfold maxLen; omega) (by omega) (by have := hbW.out.size; simp; omega) ?_
        intro v1 w1 hown' hgrow _
        obtain ⟨g', cap', rfl⟩ := ownsRow_succ hown'
        have hF := Lib.hid (Of_round hv hrow hbW.out hown' hgrow)
        have hc1 := hF.out.1.cell
        have hf1 := hF.out.1.frozen
        clear hown' hgrow
        refine hK0 _ _ ?_
        clear hK0 K0
        try simp only [Act.put, List.getElem_toArray, List.getElem_cons_zero, List.getElem_cons_succ, List.setIfInBounds_toArray, List.set_cons_zero, List.set_cons_succ]
        refine wpAnyIn_ready (rs := [7]) (by kernel_rfl) (by simp) ?_
        refine AllReadyIn.cons rfl (fun K0 hK0 => ?_) (AllReadyIn.nil)
        (try simp only [List.getElem_toArray, List.getElem_cons_zero, List.getElem_cons_succ])
        go_simp
        refine hK0 _ _ ?_
        clear hK0 K0
        try simp only [Act.put, List.getElem_toArray, List.getElem_cons_zero, List.getElem_cons_succ, List.setIfInBounds_toArray, List.set_cons_zero, List.set_cons_succ]
        refine wpAnyIn_done (by kernel_rfl) ?_ _
        gi_wp2_with fail
        have hF2 := hF.out
        refine ⟨(hF2.2.2.2.1).from _, hF2.2.2.2.2, ⟨⟨_, hF2.2.1, by simpa [hxb.out] using hF2.2.2.1, trivial⟩, ?_, ?_, ?_⟩⟩
        · exact (World.cell?_of_block (w := W) (a := ⟨w.heap.size, 0, none⟩) (hF2.2.2.2.2.block w.heap.size (by omega) (by omega))).trans hcell
        · exact hB.trans ⟨hF2.2.2.2.2.os, hF2.2.2.2.2.tape, hF2.2.2.2.2.output, hF2.2.2.2.2.size, fun k hk => hF2.2.2.2.2.block k (by omega) (by omega)⟩
        · have := hF2.2.2.2.2.size; omega
    · (try simp only [List.getElem_toArray, List.getElem_cons_zero, List.getElem_cons_succ])
      go_simp
      refine hK0 _ _ ?_
      clear hK0 K0
      try simp only [Act.put, List.getElem_toArray, List.getElem_cons_zero, List.getElem_cons_succ, List.setIfInBounds_toArray, List.set_cons_zero, List.set_cons_succ]
      refine wpAnyIn_ready (rs := [0, 2]) (by kernel_rfl) (by simp) ?_
      refine AllReadyIn.cons rfl (fun K0 hK0 => ?_) (AllReadyIn.cons rfl (fun K0 hK0 => ?_) (AllReadyIn.nil))
      · (try simp only [List.getElem_toArray, List.getElem_cons_zero])
        go_simp
        refine hK0 _ _ ?_
        clear hK0 K0
        try simp only [Act.put, List.getElem_toArray, List.getElem_cons_zero, List.getElem_cons_succ, List.setIfInBounds_toArray, List.set_cons_zero, List.set_cons_succ]
        refine wpAnyIn_ready (rs := [2]) (by kernel_rfl) (by simp) ?_
        refine AllReadyIn.cons rfl (fun K0 hK0 => ?_) (AllReadyIn.nil)
        (try simp only [List.getElem_toArray, List.getElem_cons_zero, List.getElem_cons_succ])
        go_simp
        refine hK0 _ _ ?_
        clear hK0 K0
        try simp only [Act.put, List.getElem_toArray, List.getElem_cons_zero, List.getElem_cons_succ, List.setIfInBounds_toArray, List.set_cons_zero, List.set_cons_succ]
        refine wpAnyIn_ready (rs := [3]) (by kernel_rfl) (by simp) ?_
        refine AllReadyIn.cons rfl (fun K0 hK0 => ?_) (AllReadyIn.nil)
        (try simp only [List.getElem_toArray, List.getElem_cons_zero, List.getElem_cons_succ])
        go_simp
        refine ⟨trivial, (CallsIn.inRound l (callsIn_wide.2 (hAt.out _ (below_drew _ W)))).mono ?_⟩
        rintro e wa ⟨u, c, rfl, hu, rfl⟩
        (try go_simp)
        refine hK0 _ _ ?_
        clear hK0 K0
        try simp only [Act.put, List.getElem_toArray, List.getElem_cons_zero, List.getElem_cons_succ, List.setIfInBounds_toArray, List.set_cons_zero, List.set_cons_succ]
        refine wpAnyIn_ready (rs := [4]) (by kernel_rfl) (by simp) ?_
        refine AllReadyIn.cons rfl (fun K0 hK0 => ?_) (AllReadyIn.nil)
        (try simp only [List.getElem_toArray, List.getElem_cons_zero, List.getElem_cons_succ])
        go_simp
        refine ⟨trivial, (CallsIn.inRound l (callsIn_wide.2 (hOf.out _ _ hu))).mono ?_⟩
        rintro e wo ⟨rfl, hbo⟩
        have hbW := Lib.hid (ext_trans (below_drew _ W) hbo)
        have hco := hcv.out _ hbW.out
        have hcl := hcv.out _ (ext_alloc hbW.out (.cells #[.string xb] 9))
        clear hu hbo
        (try go_simp)
        refine hK0 _ _ ?_
        clear hK0 K0
        try simp only [Act.put, List.getElem_toArray, List.getElem_cons_zero, List.getElem_cons_succ, List.setIfInBounds_toArray, List.set_cons_zero, List.set_cons_succ]
        refine wpAnyIn_ready (rs := [5]) (by kernel_rfl) (by simp) ?_
        refine AllReadyIn.cons rfl (fun K0 hK0 => ?_) (AllReadyIn.nil)
        (try simp only [List.getElem_toArray, List.getElem_cons_zero, List.getElem_cons_succ])
        go_simp
        refine hK0 _ _ ?_
        clear hK0 K0
        try simp only [Act.put, List.getElem_toArray, List.getElem_cons_zero, List.getElem_cons_succ, List.setIfInBounds_toArray, List.set_cons_zero, List.set_cons_succ]
        refine wpAnyIn_ready (rs := [6]) (by kernel_rfl) (by simp) ?_
        refine AllReadyIn.cons rfl (fun K0 hK0 => ?_) (AllReadyIn.nil)
        refine step_app_in _ _ 199 (by rfl) (by rfl) (w.heap.size + 4) 9 i9 (.string ⟨#[]⟩) 1 16 Try.underlying199 hi hz hsz hby rfl (by decide) v pre.length _ (by rfl) ((ownsRow_keep hrow fun j hj => hbW.out.block j (hrow.lt j hj).2).alloc (.cells #[.string xb] 9)) ⟨wo.heap.size, 0, none⟩ 1 1 [.string xb] (by rfl) rfl (cell_one_new _ _ _) (by simp [Value.oneCell']) (by unfold maxLen; omega) (by omega) (by have := hbW.out.size; simp; omega) ?_
        intro v1 w1 hown' hgrow _
        obtain ⟨g', cap', rfl⟩ := ownsRow_succ hown'
        have hF := Lib.hid (Of_round hv hrow hbW.out hown' hgrow)
        have hc1 := hF.out.1.cell
        have hf1 := hF.out.1.frozen
        clear hown' hgrow
        refine hK0 _ _ ?_
        clear hK0 K0
        try simp only [Act.put, List.getElem_toArray, List.getElem_cons_zero, List.getElem_cons_succ, List.setIfInBounds_toArray, List.set_cons_zero, List.set_cons_succ]
        refine wpAnyIn_ready (rs := [7]) (by kernel_rfl) (by simp) ?_
        refine AllReadyIn.cons rfl (fun K0 hK0 => ?_) (AllReadyIn.nil)
        (try simp only [List.getElem_toArray, List.getElem_cons_zero, List.getElem_cons_succ])
        go_simp
        refine hK0 _ _ ?_
        clear hK0 K0
        try simp only [Act.put, List.getElem_toArray, List.getElem_cons_zero, List.getElem_cons_succ, List.setIfInBounds_toArray, List.set_cons_zero, List.set_cons_succ]
        refine wpAnyIn_done (by kernel_rfl) ?_ _
        gi_wp2_with fail
        have hF2 := hF.out
        refine ⟨(hF2.2.2.2.1).from _, hF2.2.2.2.2, ⟨⟨_, hF2.2.1, by simpa [hxb.out] using hF2.2.2.1, trivial⟩, ?_, ?_, ?_⟩⟩
        · exact (World.cell?_of_block (w := W) (a := ⟨w.heap.size, 0, none⟩) (hF2.2.2.2.2.block w.heap.size (by omega) (by omega))).trans hcell
        · exact hB.trans ⟨hF2.2.2.2.2.os, hF2.2.2.2.2.tape, hF2.2.2.2.2.output, hF2.2.2.2.2.size, fun k hk => hF2.2.2.2.2.block k (by omega) (by omega)⟩
        · have := hF2.2.2.2.2.size; omega
      · (try simp only [List.getElem_toArray, List.getElem_cons_zero, List.getElem_cons_succ])
        go_simp
        refine hK0 _ _ ?_
        clear hK0 K0
        try simp only [Act.put, List.getElem_toArray, List.getElem_cons_zero, List.getElem_cons_succ, List.setIfInBounds_toArray, List.set_cons_zero, List.set_cons_succ]
        refine wpAnyIn_ready (rs := [0, 3]) (by kernel_rfl) (by simp) ?_
        refine AllReadyIn.cons rfl (fun K0 hK0 => ?_) (AllReadyIn.cons rfl (fun K0 hK0 => ?_) (AllReadyIn.nil))
        · (try simp only [List.getElem_toArray, List.getElem_cons_zero])
          go_simp
          refine hK0 _ _ ?_
          clear hK0 K0
          try simp only [Act.put, List.getElem_toArray, List.getElem_cons_zero, List.getElem_cons_succ, List.setIfInBounds_toArray, List.set_cons_zero, List.set_cons_succ]
          refine wpAnyIn_ready (rs := [3]) (by kernel_rfl) (by simp) ?_
          refine AllReadyIn.cons rfl (fun K0 hK0 => ?_) (AllReadyIn.nil)
          (try simp only [List.getElem_toArray, List.getElem_cons_zero, List.getElem_cons_succ])
          go_simp
          refine ⟨trivial, (CallsIn.inRound l (callsIn_wide.2 (hAt.out _ (below_drew _ W)))).mono ?_⟩
          rintro e wa ⟨u, c, rfl, hu, rfl⟩
          (try go_simp)
          refine hK0 _ _ ?_
          clear hK0 K0
          try simp only [Act.put, List.getElem_toArray, List.getElem_cons_zero, List.getElem_cons_succ, List.setIfInBounds_toArray, List.set_cons_zero, List.set_cons_succ]
          refine wpAnyIn_ready (rs := [4]) (by kernel_rfl) (by simp) ?_
          refine AllReadyIn.cons rfl (fun K0 hK0 => ?_) (AllReadyIn.nil)
          (try simp only [List.getElem_toArray, List.getElem_cons_zero, List.getElem_cons_succ])
          go_simp
          refine ⟨trivial, (CallsIn.inRound l (callsIn_wide.2 (hOf.out _ _ hu))).mono ?_⟩
          rintro e wo ⟨rfl, hbo⟩
          have hbW := Lib.hid (ext_trans (below_drew _ W) hbo)
          have hco := hcv.out _ hbW.out
          have hcl := hcv.out _ (ext_alloc hbW.out (.cells #[.string xb] 9))
          clear hu hbo
          (try go_simp)
          refine hK0 _ _ ?_
          clear hK0 K0
          try simp only [Act.put, List.getElem_toArray, List.getElem_cons_zero, List.getElem_cons_succ, List.setIfInBounds_toArray, List.set_cons_zero, List.set_cons_succ]
          refine wpAnyIn_ready (rs := [5]) (by kernel_rfl) (by simp) ?_
          refine AllReadyIn.cons rfl (fun K0 hK0 => ?_) (AllReadyIn.nil)
          (try simp only [List.getElem_toArray, List.getElem_cons_zero, List.getElem_cons_succ])
          go_simp
          refine hK0 _ _ ?_
          clear hK0 K0
          try simp only [Act.put, List.getElem_toArray, List.getElem_cons_zero, List.getElem_cons_succ, List.setIfInBounds_toArray, List.set_cons_zero, List.set_cons_succ]
          refine wpAnyIn_ready (rs := [6]) (by kernel_rfl) (by simp) ?_
          refine AllReadyIn.cons rfl (fun K0 hK0 => ?_) (AllReadyIn.nil)
          refine step_app_in _ _ 199 (by rfl) (by rfl) (w.heap.size + 4) 9 i9 (.string ⟨#[]⟩) 1 16 Try.underlying199 hi hz hsz hby rfl (by decide) v pre.length _ (by rfl) ((ownsRow_keep hrow fun j hj => hbW.out.block j (hrow.lt j hj).2).alloc (.cells #[.string xb] 9)) ⟨wo.heap.size, 0, none⟩ 1 1 [.string xb] (by rfl) rfl (cell_one_new _ _ _) (by simp [Value.oneCell']) (by unfold maxLen; omega) (by omega) (by have := hbW.out.size; simp; omega) ?_
          intro v1 w1 hown' hgrow _
          obtain ⟨g', cap', rfl⟩ := ownsRow_succ hown'
          have hF := Lib.hid (Of_round hv hrow hbW.out hown' hgrow)
          have hc1 := hF.out.1.cell
          have hf1 := hF.out.1.frozen
          clear hown' hgrow
          refine hK0 _ _ ?_
          clear hK0 K0
          try simp only [Act.put, List.getElem_toArray, List.getElem_cons_zero, List.getElem_cons_succ, List.setIfInBounds_toArray, List.set_cons_zero, List.set_cons_succ]
          refine wpAnyIn_ready (rs := [7]) (by kernel_rfl) (by simp) ?_
          refine AllReadyIn.cons rfl (fun K0 hK0 => ?_) (AllReadyIn.nil)
          (try simp only [List.getElem_toArray, List.getElem_cons_zero, List.getElem_cons_succ])
          go_simp
          refine hK0 _ _ ?_
          clear hK0 K0
          try simp only [Act.put, List.getElem_toArray, List.getElem_cons_zero, List.getElem_cons_succ, List.setIfInBounds_toArray, List.set_cons_zero, List.set_cons_succ]
          refine wpAnyIn_done (by kernel_rfl) ?_ _
          gi_wp2_with fail
          have hF2 := hF.out
          refine ⟨(hF2.2.2.2.1).from _, hF2.2.2.2.2, ⟨⟨_, hF2.2.1, by simpa [hxb.out] using hF2.2.2.1, trivial⟩, ?_, ?_, ?_⟩⟩
          · exact (World.cell?_of_block (w := W) (a := ⟨w.heap.size, 0, none⟩) (hF2.2.2.2.2.block w.heap.size (by omega) (by omega))).trans hcell
          · exact hB.trans ⟨hF2.2.2.2.2.os, hF2.2.2.2.2.tape, hF2.2.2.2.2.output, hF2.2.2.2.2.size, fun k hk => hF2.2.2.2.2.block k (by omega) (by omega)⟩
          · have := hF2.2.2.2.2.size; omega
        · (try simp only [List.getElem_toArray, List.getElem_cons_zero, List.getElem_cons_succ])
          go_simp
          refine ⟨trivial, (CallsIn.inRound l (callsIn_wide.2 (hAt.out _ (below_drew _ W)))).mono ?_⟩
          rintro e wa ⟨u, c, rfl, hu, rfl⟩
          (try go_simp)
          refine hK0 _ _ ?_
          clear hK0 K0
          try simp only [Act.put, List.getElem_toArray, List.getElem_cons_zero, List.getElem_cons_succ, List.setIfInBounds_toArray, List.set_cons_zero, List.set_cons_succ]
          refine wpAnyIn_ready (rs := [0, 4]) (by kernel_rfl) (by simp) ?_
          refine AllReadyIn.cons rfl (fun K0 hK0 => ?_) (AllReadyIn.cons rfl (fun K0 hK0 => ?_) (AllReadyIn.nil))
          · (try simp only [List.getElem_toArray, List.getElem_cons_zero])
            go_simp
            refine hK0 _ _ ?_
            clear hK0 K0
            try simp only [Act.put, List.getElem_toArray, List.getElem_cons_zero, List.getElem_cons_succ, List.setIfInBounds_toArray, List.set_cons_zero, List.set_cons_succ]
            refine wpAnyIn_ready (rs := [4]) (by kernel_rfl) (by simp) ?_
            refine AllReadyIn.cons rfl (fun K0 hK0 => ?_) (AllReadyIn.nil)
            (try simp only [List.getElem_toArray, List.getElem_cons_zero, List.getElem_cons_succ])
            go_simp
            refine ⟨trivial, (CallsIn.inRound l (callsIn_wide.2 (hOf.out _ _ hu))).mono ?_⟩
            rintro e wo ⟨rfl, hbo⟩
            have hbW := Lib.hid (ext_trans (below_drew _ W) hbo)
            have hco := hcv.out _ hbW.out
            have hcl := hcv.out _ (ext_alloc hbW.out (.cells #[.string xb] 9))
            clear hu hbo
            (try go_simp)
            refine hK0 _ _ ?_
            clear hK0 K0
            try simp only [Act.put, List.getElem_toArray, List.getElem_cons_zero, List.getElem_cons_succ, List.setIfInBounds_toArray, List.set_cons_zero, List.set_cons_succ]
            refine wpAnyIn_ready (rs := [5]) (by kernel_rfl) (by simp) ?_
            refine AllReadyIn.cons rfl (fun K0 hK0 => ?_) (AllReadyIn.nil)
            (try simp only [List.getElem_toArray, List.getElem_cons_zero, List.getElem_cons_succ])
            go_simp
            refine hK0 _ _ ?_
            clear hK0 K0
            try simp only [Act.put, List.getElem_toArray, List.getElem_cons_zero, List.getElem_cons_succ, List.setIfInBounds_toArray, List.set_cons_zero, List.set_cons_succ]
            refine wpAnyIn_ready (rs := [6]) (by kernel_rfl) (by simp) ?_
            refine AllReadyIn.cons rfl (fun K0 hK0 => ?_) (AllReadyIn.nil)
            refine step_app_in _ _ 199 (by rfl) (by rfl) (w.heap.size + 4) 9 i9 (.string ⟨#[]⟩) 1 16 Try.underlying199 hi hz hsz hby rfl (by decide) v pre.length _ (by rfl) ((ownsRow_keep hrow fun j hj => hbW.out.block j (hrow.lt j hj).2).alloc (.cells #[.string xb] 9)) ⟨wo.heap.size, 0, none⟩ 1 1 [.string xb] (by rfl) rfl (cell_one_new _ _ _) (by simp [Value.oneCell']) (by unfold maxLen; omega) (by omega) (by have := hbW.out.size; simp; omega) ?_
            intro v1 w1 hown' hgrow _
            obtain ⟨g', cap', rfl⟩ := ownsRow_succ hown'
            have hF := Lib.hid (Of_round hv hrow hbW.out hown' hgrow)
            have hc1 := hF.out.1.cell
            have hf1 := hF.out.1.frozen
            clear hown' hgrow
            refine hK0 _ _ ?_
            clear hK0 K0
            try simp only [Act.put, List.getElem_toArray, List.getElem_cons_zero, List.getElem_cons_succ, List.setIfInBounds_toArray, List.set_cons_zero, List.set_cons_succ]
            refine wpAnyIn_ready (rs := [7]) (by kernel_rfl) (by simp) ?_
            refine AllReadyIn.cons rfl (fun K0 hK0 => ?_) (AllReadyIn.nil)
            (try simp only [List.getElem_toArray, List.getElem_cons_zero, List.getElem_cons_succ])
            go_simp
            refine hK0 _ _ ?_
            clear hK0 K0
            try simp only [Act.put, List.getElem_toArray, List.getElem_cons_zero, List.getElem_cons_succ, List.setIfInBounds_toArray, List.set_cons_zero, List.set_cons_succ]
            refine wpAnyIn_done (by kernel_rfl) ?_ _
            gi_wp2_with fail
            have hF2 := hF.out
            refine ⟨(hF2.2.2.2.1).from _, hF2.2.2.2.2, ⟨⟨_, hF2.2.1, by simpa [hxb.out] using hF2.2.2.1, trivial⟩, ?_, ?_, ?_⟩⟩
            · exact (World.cell?_of_block (w := W) (a := ⟨w.heap.size, 0, none⟩) (hF2.2.2.2.2.block w.heap.size (by omega) (by omega))).trans hcell
            · exact hB.trans ⟨hF2.2.2.2.2.os, hF2.2.2.2.2.tape, hF2.2.2.2.2.output, hF2.2.2.2.2.size, fun k hk => hF2.2.2.2.2.block k (by omega) (by omega)⟩
            · have := hF2.2.2.2.2.size; omega
          · (try simp only [List.getElem_toArray, List.getElem_cons_zero, List.getElem_cons_succ])
            go_simp
            refine ⟨trivial, (CallsIn.inRound l (callsIn_wide.2 (hOf.out _ _ hu))).mono ?_⟩
            rintro e wo ⟨rfl, hbo⟩
            have hbW := Lib.hid (ext_trans (below_drew _ W) hbo)
            have hco := hcv.out _ hbW.out
            have hcl := hcv.out _ (ext_alloc hbW.out (.cells #[.string xb] 9))
            clear hu hbo
            (try go_simp)
            refine hK0 _ _ ?_
            clear hK0 K0
            try simp only [Act.put, List.getElem_toArray, List.getElem_cons_zero, List.getElem_cons_succ, List.setIfInBounds_toArray, List.set_cons_zero, List.set_cons_succ]
            refine wpAnyIn_ready (rs := [0, 5]) (by kernel_rfl) (by simp) ?_
            refine AllReadyIn.cons rfl (fun K0 hK0 => ?_) (AllReadyIn.cons rfl (fun K0 hK0 => ?_) (AllReadyIn.nil))
            · (try simp only [List.getElem_toArray, List.getElem_cons_zero])
              go_simp
              refine hK0 _ _ ?_
              clear hK0 K0
              try simp only [Act.put, List.getElem_toArray, List.getElem_cons_zero, List.getElem_cons_succ, List.setIfInBounds_toArray, List.set_cons_zero, List.set_cons_succ]
              refine wpAnyIn_ready (rs := [5]) (by kernel_rfl) (by simp) ?_
              refine AllReadyIn.cons rfl (fun K0 hK0 => ?_) (AllReadyIn.nil)
              (try simp only [List.getElem_toArray, List.getElem_cons_zero, List.getElem_cons_succ])
              go_simp
              refine hK0 _ _ ?_
              clear hK0 K0
              try simp only [Act.put, List.getElem_toArray, List.getElem_cons_zero, List.getElem_cons_succ, List.setIfInBounds_toArray, List.set_cons_zero, List.set_cons_succ]
              refine wpAnyIn_ready (rs := [6]) (by kernel_rfl) (by simp) ?_
              refine AllReadyIn.cons rfl (fun K0 hK0 => ?_) (AllReadyIn.nil)
              refine step_app_in _ _ 199 (by rfl) (by rfl) (w.heap.size + 4) 9 i9 (.string ⟨#[]⟩) 1 16 Try.underlying199 hi hz hsz hby rfl (by decide) v pre.length _ (by rfl) ((ownsRow_keep hrow fun j hj => hbW.out.block j (hrow.lt j hj).2).alloc (.cells #[.string xb] 9)) ⟨wo.heap.size, 0, none⟩ 1 1 [.string xb] (by rfl) rfl (cell_one_new _ _ _) (by simp [Value.oneCell']) (by unfold maxLen; omega) (by omega) (by have := hbW.out.size; simp; omega) ?_
              intro v1 w1 hown' hgrow _
              obtain ⟨g', cap', rfl⟩ := ownsRow_succ hown'
              have hF := Lib.hid (Of_round hv hrow hbW.out hown' hgrow)
              have hc1 := hF.out.1.cell
              have hf1 := hF.out.1.frozen
              clear hown' hgrow
              refine hK0 _ _ ?_
              clear hK0 K0
              try simp only [Act.put, List.getElem_toArray, List.getElem_cons_zero, List.getElem_cons_succ, List.setIfInBounds_toArray, List.set_cons_zero, List.set_cons_succ]
              refine wpAnyIn_ready (rs := [7]) (by kernel_rfl) (by simp) ?_
              refine AllReadyIn.cons rfl (fun K0 hK0 => ?_) (AllReadyIn.nil)
              (try simp only [List.getElem_toArray, List.getElem_cons_zero, List.getElem_cons_succ])
              go_simp
              refine hK0 _ _ ?_
              clear hK0 K0
              try simp only [Act.put, List.getElem_toArray, List.getElem_cons_zero, List.getElem_cons_succ, List.setIfInBounds_toArray, List.set_cons_zero, List.set_cons_succ]
              refine wpAnyIn_done (by kernel_rfl) ?_ _
              gi_wp2_with fail
              have hF2 := hF.out
              refine ⟨(hF2.2.2.2.1).from _, hF2.2.2.2.2, ⟨⟨_, hF2.2.1, by simpa [hxb.out] using hF2.2.2.1, trivial⟩, ?_, ?_, ?_⟩⟩
              · exact (World.cell?_of_block (w := W) (a := ⟨w.heap.size, 0, none⟩) (hF2.2.2.2.2.block w.heap.size (by omega) (by omega))).trans hcell
              · exact hB.trans ⟨hF2.2.2.2.2.os, hF2.2.2.2.2.tape, hF2.2.2.2.2.output, hF2.2.2.2.2.size, fun k hk => hF2.2.2.2.2.block k (by omega) (by omega)⟩
              · have := hF2.2.2.2.2.size; omega
            · (try simp only [List.getElem_toArray, List.getElem_cons_zero, List.getElem_cons_succ])
              go_simp
              refine hK0 _ _ ?_
              clear hK0 K0
              try simp only [Act.put, List.getElem_toArray, List.getElem_cons_zero, List.getElem_cons_succ, List.setIfInBounds_toArray, List.set_cons_zero, List.set_cons_succ]
              refine wpAnyIn_ready (rs := [0]) (by kernel_rfl) (by simp) ?_
              refine AllReadyIn.cons rfl (fun K0 hK0 => ?_) (AllReadyIn.nil)
              (try simp only [List.getElem_toArray, List.getElem_cons_zero])
              go_simp
              refine hK0 _ _ ?_
              clear hK0 K0
              try simp only [Act.put, List.getElem_toArray, List.getElem_cons_zero, List.getElem_cons_succ, List.setIfInBounds_toArray, List.set_cons_zero, List.set_cons_succ]
              refine wpAnyIn_ready (rs := [6]) (by kernel_rfl) (by simp) ?_
              refine AllReadyIn.cons rfl (fun K0 hK0 => ?_) (AllReadyIn.nil)
              refine step_app_in _ _ 199 (by rfl) (by rfl) (w.heap.size + 4) 9 i9 (.string ⟨#[]⟩) 1 16 Try.underlying199 hi hz hsz hby rfl (by decide) v pre.length _ (by rfl) ((ownsRow_keep hrow fun j hj => hbW.out.block j (hrow.lt j hj).2).alloc (.cells #[.string xb] 9)) ⟨wo.heap.size, 0, none⟩ 1 1 [.string xb] (by rfl) rfl (cell_one_new _ _ _) (by simp [Value.oneCell']) (by unfold maxLen; omega) (by omega) (by have := hbW.out.size; simp; omega) ?_
              intro v1 w1 hown' hgrow _
              obtain ⟨g', cap', rfl⟩ := ownsRow_succ hown'
              have hF := Lib.hid (Of_round hv hrow hbW.out hown' hgrow)
              have hc1 := hF.out.1.cell
              have hf1 := hF.out.1.frozen
              clear hown' hgrow
              refine hK0 _ _ ?_
              clear hK0 K0
              try simp only [Act.put, List.getElem_toArray, List.getElem_cons_zero, List.getElem_cons_succ, List.setIfInBounds_toArray, List.set_cons_zero, List.set_cons_succ]
              refine wpAnyIn_ready (rs := [7]) (by kernel_rfl) (by simp) ?_
              refine AllReadyIn.cons rfl (fun K0 hK0 => ?_) (AllReadyIn.nil)
              (try simp only [List.getElem_toArray, List.getElem_cons_zero, List.getElem_cons_succ])
              go_simp
              refine hK0 _ _ ?_
              clear hK0 K0
              try simp only [Act.put, List.getElem_toArray, List.getElem_cons_zero, List.getElem_cons_succ, List.setIfInBounds_toArray, List.set_cons_zero, List.set_cons_succ]
              refine wpAnyIn_done (by kernel_rfl) ?_ _
              gi_wp2_with fail
              have hF2 := hF.out
              refine ⟨(hF2.2.2.2.1).from _, hF2.2.2.2.2, ⟨⟨_, hF2.2.1, by simpa [hxb.out] using hF2.2.2.1, trivial⟩, ?_, ?_, ?_⟩⟩
              · exact (World.cell?_of_block (w := W) (a := ⟨w.heap.size, 0, none⟩) (hF2.2.2.2.2.block w.heap.size (by omega) (by omega))).trans hcell
              · exact hB.trans ⟨hF2.2.2.2.2.os, hF2.2.2.2.2.tape, hF2.2.2.2.2.output, hF2.2.2.2.2.size, fun k hk => hF2.2.2.2.2.block k (by omega) (by omega)⟩
              · have := hF2.2.2.2.2.size; omega
    · (try simp only [List.getElem_toArray, List.getElem_cons_zero, List.getElem_cons_succ])
      go_simp
      refine hK0 _ _ ?_
      clear hK0 K0
      try simp only [Act.put, List.getElem_toArray, List.getElem_cons_zero, List.getElem_cons_succ, List.setIfInBounds_toArray, List.set_cons_zero, List.set_cons_succ]
      refine wpAnyIn_ready (rs := [0, 1]) (by kernel_rfl) (by simp) ?_
      refine AllReadyIn.cons rfl (fun K0 hK0 => ?_) (AllReadyIn.cons rfl (fun K0 hK0 => ?_) (AllReadyIn.nil))
      · (try simp only [List.getElem_toArray, List.getElem_cons_zero])
        go_simp
        refine hK0 _ _ ?_
        clear hK0 K0
        try simp only [Act.put, List.getElem_toArray, List.getElem_cons_zero, List.getElem_cons_succ, List.setIfInBounds_toArray, List.set_cons_zero, List.set_cons_succ]
        refine wpAnyIn_ready (rs := [1]) (by kernel_rfl) (by simp) ?_
        refine AllReadyIn.cons rfl (fun K0 hK0 => ?_) (AllReadyIn.nil)
        (try simp only [List.getElem_toArray, List.getElem_cons_zero, List.getElem_cons_succ])
        go_simp
        refine hK0 _ _ ?_
        clear hK0 K0
        try simp only [Act.put, List.getElem_toArray, List.getElem_cons_zero, List.getElem_cons_succ, List.setIfInBounds_toArray, List.set_cons_zero, List.set_cons_succ]
        refine wpAnyIn_ready (rs := [3]) (by kernel_rfl) (by simp) ?_
        refine AllReadyIn.cons rfl (fun K0 hK0 => ?_) (AllReadyIn.nil)
        (try simp only [List.getElem_toArray, List.getElem_cons_zero, List.getElem_cons_succ])
        go_simp
        refine ⟨trivial, (CallsIn.inRound l (callsIn_wide.2 (hAt.out _ (below_drew _ W)))).mono ?_⟩
        rintro e wa ⟨u, c, rfl, hu, rfl⟩
        (try go_simp)
        refine hK0 _ _ ?_
        clear hK0 K0
        try simp only [Act.put, List.getElem_toArray, List.getElem_cons_zero, List.getElem_cons_succ, List.setIfInBounds_toArray, List.set_cons_zero, List.set_cons_succ]
        refine wpAnyIn_ready (rs := [4]) (by kernel_rfl) (by simp) ?_
        refine AllReadyIn.cons rfl (fun K0 hK0 => ?_) (AllReadyIn.nil)
        (try simp only [List.getElem_toArray, List.getElem_cons_zero, List.getElem_cons_succ])
        go_simp
        refine ⟨trivial, (CallsIn.inRound l (callsIn_wide.2 (hOf.out _ _ hu))).mono ?_⟩
        rintro e wo ⟨rfl, hbo⟩
        have hbW := Lib.hid (ext_trans (below_drew _ W) hbo)
        have hco := hcv.out _ hbW.out
        have hcl := hcv.out _ (ext_alloc hbW.out (.cells #[.string xb] 9))
        clear hu hbo
        (try go_simp)
        refine hK0 _ _ ?_
        clear hK0 K0
        try simp only [Act.put, List.getElem_toArray, List.getElem_cons_zero, List.getElem_cons_succ, List.setIfInBounds_toArray, List.set_cons_zero, List.set_cons_succ]
        refine wpAnyIn_ready (rs := [5]) (by kernel_rfl) (by simp) ?_
        refine AllReadyIn.cons rfl (fun K0 hK0 => ?_) (AllReadyIn.nil)
        (try simp only [List.getElem_toArray, List.getElem_cons_zero, List.getElem_cons_succ])
        go_simp
        refine hK0 _ _ ?_
        clear hK0 K0
        try simp only [Act.put, List.getElem_toArray, List.getElem_cons_zero, List.getElem_cons_succ, List.setIfInBounds_toArray, List.set_cons_zero, List.set_cons_succ]
        refine wpAnyIn_ready (rs := [6]) (by kernel_rfl) (by simp) ?_
        refine AllReadyIn.cons rfl (fun K0 hK0 => ?_) (AllReadyIn.nil)
        refine step_app_in _ _ 199 (by rfl) (by rfl) (w.heap.size + 4) 9 i9 (.string ⟨#[]⟩) 1 16 Try.underlying199 hi hz hsz hby rfl (by decide) v pre.length _ (by rfl) ((ownsRow_keep hrow fun j hj => hbW.out.block j (hrow.lt j hj).2).alloc (.cells #[.string xb] 9)) ⟨wo.heap.size, 0, none⟩ 1 1 [.string xb] (by rfl) rfl (cell_one_new _ _ _) (by simp [Value.oneCell']) (by unfold maxLen; omega) (by omega) (by have := hbW.out.size; simp; omega) ?_
        intro v1 w1 hown' hgrow _
        obtain ⟨g', cap', rfl⟩ := ownsRow_succ hown'
        have hF := Lib.hid (Of_round hv hrow hbW.out hown' hgrow)
        have hc1 := hF.out.1.cell
        have hf1 := hF.out.1.frozen
        clear hown' hgrow
        refine hK0 _ _ ?_
        clear hK0 K0
        try simp only [Act.put, List.getElem_toArray, List.getElem_cons_zero, List.getElem_cons_succ, List.setIfInBounds_toArray, List.set_cons_zero, List.set_cons_succ]
        refine wpAnyIn_ready (rs := [7]) (by kernel_rfl) (by simp) ?_
        refine AllReadyIn.cons rfl (fun K0 hK0 => ?_) (AllReadyIn.nil)
        (try simp only [List.getElem_toArray, List.getElem_cons_zero, List.getElem_cons_succ])
        go_simp
        refine hK0 _ _ ?_
        clear hK0 K0
        try simp only [Act.put, List.getElem_toArray, List.getElem_cons_zero, List.getElem_cons_succ, List.setIfInBounds_toArray, List.set_cons_zero, List.set_cons_succ]
        refine wpAnyIn_done (by kernel_rfl) ?_ _
        gi_wp2_with fail
        have hF2 := hF.out
        refine ⟨(hF2.2.2.2.1).from _, hF2.2.2.2.2, ⟨⟨_, hF2.2.1, by simpa [hxb.out] using hF2.2.2.1, trivial⟩, ?_, ?_, ?_⟩⟩
        · exact (World.cell?_of_block (w := W) (a := ⟨w.heap.size, 0, none⟩) (hF2.2.2.2.2.block w.heap.size (by omega) (by omega))).trans hcell
        · exact hB.trans ⟨hF2.2.2.2.2.os, hF2.2.2.2.2.tape, hF2.2.2.2.2.output, hF2.2.2.2.2.size, fun k hk => hF2.2.2.2.2.block k (by omega) (by omega)⟩
        · have := hF2.2.2.2.2.size; omega
      · (try simp only [List.getElem_toArray, List.getElem_cons_zero, List.getElem_cons_succ])
        go_simp
        refine hK0 _ _ ?_
        clear hK0 K0
        try simp only [Act.put, List.getElem_toArray, List.getElem_cons_zero, List.getElem_cons_succ, List.setIfInBounds_toArray, List.set_cons_zero, List.set_cons_succ]
        refine wpAnyIn_ready (rs := [0, 3]) (by kernel_rfl) (by simp) ?_
        refine AllReadyIn.cons rfl (fun K0 hK0 => ?_) (AllReadyIn.cons rfl (fun K0 hK0 => ?_) (AllReadyIn.nil))
        · (try simp only [List.getElem_toArray, List.getElem_cons_zero])
          go_simp
          refine hK0 _ _ ?_
          clear hK0 K0
          try simp only [Act.put, List.getElem_toArray, List.getElem_cons_zero, List.getElem_cons_succ, List.setIfInBounds_toArray, List.set_cons_zero, List.set_cons_succ]
          refine wpAnyIn_ready (rs := [3]) (by kernel_rfl) (by simp) ?_
          refine AllReadyIn.cons rfl (fun K0 hK0 => ?_) (AllReadyIn.nil)
          (try simp only [List.getElem_toArray, List.getElem_cons_zero, List.getElem_cons_succ])
          go_simp
          refine ⟨trivial, (CallsIn.inRound l (callsIn_wide.2 (hAt.out _ (below_drew _ W)))).mono ?_⟩
          rintro e wa ⟨u, c, rfl, hu, rfl⟩
          (try go_simp)
          refine hK0 _ _ ?_
          clear hK0 K0
          try simp only [Act.put, List.getElem_toArray, List.getElem_cons_zero, List.getElem_cons_succ, List.setIfInBounds_toArray, List.set_cons_zero, List.set_cons_succ]
          refine wpAnyIn_ready (rs := [4]) (by kernel_rfl) (by simp) ?_
          refine AllReadyIn.cons rfl (fun K0 hK0 => ?_) (AllReadyIn.nil)
          (try simp only [List.getElem_toArray, List.getElem_cons_zero, List.getElem_cons_succ])
          go_simp
          refine ⟨trivial, (CallsIn.inRound l (callsIn_wide.2 (hOf.out _ _ hu))).mono ?_⟩
          rintro e wo ⟨rfl, hbo⟩
          have hbW := Lib.hid (ext_trans (below_drew _ W) hbo)
          have hco := hcv.out _ hbW.out
          have hcl := hcv.out _ (ext_alloc hbW.out (.cells #[.string xb] 9))
          clear hu hbo
          (try go_simp)
          refine hK0 _ _ ?_
          clear hK0 K0
          try simp only [Act.put, List.getElem_toArray, List.getElem_cons_zero, List.getElem_cons_succ, List.setIfInBounds_toArray, List.set_cons_zero, List.set_cons_succ]
          refine wpAnyIn_ready (rs := [5]) (by kernel_rfl) (by simp) ?_
          refine AllReadyIn.cons rfl (fun K0 hK0 => ?_) (AllReadyIn.nil)
          (try simp only [List.getElem_toArray, List.getElem_cons_zero, List.getElem_cons_succ])
          go_simp
          refine hK0 _ _ ?_
          clear hK0 K0
          try simp only [Act.put, List.getElem_toArray, List.getElem_cons_zero, List.getElem_cons_succ, List.setIfInBounds_toArray, List.set_cons_zero, List.set_cons_succ]
          refine wpAnyIn_ready (rs := [6]) (by kernel_rfl) (by simp) ?_
          refine AllReadyIn.cons rfl (fun K0 hK0 => ?_) (AllReadyIn.nil)
          refine step_app_in _ _ 199 (by rfl) (by rfl) (w.heap.size + 4) 9 i9 (.string ⟨#[]⟩) 1 16 Try.underlying199 hi hz hsz hby rfl (by decide) v pre.length _ (by rfl) ((ownsRow_keep hrow fun j hj => hbW.out.block j (hrow.lt j hj).2).alloc (.cells #[.string xb] 9)) ⟨wo.heap.size, 0, none⟩ 1 1 [.string xb] (by rfl) rfl (cell_one_new _ _ _) (by simp [Value.oneCell']) (by unfold maxLen; omega) (by omega) (by have := hbW.out.size; simp; omega) ?_
          intro v1 w1 hown' hgrow _
          obtain ⟨g', cap', rfl⟩ := ownsRow_succ hown'
          have hF := Lib.hid (Of_round hv hrow hbW.out hown' hgrow)
          have hc1 := hF.out.1.cell
          have hf1 := hF.out.1.frozen
          clear hown' hgrow
          refine hK0 _ _ ?_
          clear hK0 K0
          try simp only [Act.put, List.getElem_toArray, List.getElem_cons_zero, List.getElem_cons_succ, List.setIfInBounds_toArray, List.set_cons_zero, List.set_cons_succ]
          refine wpAnyIn_ready (rs := [7]) (by kernel_rfl) (by simp) ?_
          refine AllReadyIn.cons rfl (fun K0 hK0 => ?_) (AllReadyIn.nil)
          (try simp only [List.getElem_toArray, List.getElem_cons_zero, List.getElem_cons_succ])
          go_simp
          refine hK0 _ _ ?_
          clear hK0 K0
          try simp only [Act.put, List.getElem_toArray, List.getElem_cons_zero, List.getElem_cons_succ, List.setIfInBounds_toArray, List.set_cons_zero, List.set_cons_succ]
          refine wpAnyIn_done (by kernel_rfl) ?_ _
          gi_wp2_with fail
          have hF2 := hF.out
          refine ⟨(hF2.2.2.2.1).from _, hF2.2.2.2.2, ⟨⟨_, hF2.2.1, by simpa [hxb.out] using hF2.2.2.1, trivial⟩, ?_, ?_, ?_⟩⟩
          · exact (World.cell?_of_block (w := W) (a := ⟨w.heap.size, 0, none⟩) (hF2.2.2.2.2.block w.heap.size (by omega) (by omega))).trans hcell
          · exact hB.trans ⟨hF2.2.2.2.2.os, hF2.2.2.2.2.tape, hF2.2.2.2.2.output, hF2.2.2.2.2.size, fun k hk => hF2.2.2.2.2.block k (by omega) (by omega)⟩
          · have := hF2.2.2.2.2.size; omega
        · (try simp only [List.getElem_toArray, List.getElem_cons_zero, List.getElem_cons_succ])
          go_simp
          refine ⟨trivial, (CallsIn.inRound l (callsIn_wide.2 (hAt.out _ (below_drew _ W)))).mono ?_⟩
          rintro e wa ⟨u, c, rfl, hu, rfl⟩
          (try go_simp)
          refine hK0 _ _ ?_
          clear hK0 K0
          try simp only [Act.put, List.getElem_toArray, List.getElem_cons_zero, List.getElem_cons_succ, List.setIfInBounds_toArray, List.set_cons_zero, List.set_cons_succ]
          refine wpAnyIn_ready (rs := [0, 4]) (by kernel_rfl) (by simp) ?_
          refine AllReadyIn.cons rfl (fun K0 hK0 => ?_) (AllReadyIn.cons rfl (fun K0 hK0 => ?_) (AllReadyIn.nil))
          · (try simp only [List.getElem_toArray, List.getElem_cons_zero])
            go_simp
            refine hK0 _ _ ?_
            clear hK0 K0
            try simp only [Act.put, List.getElem_toArray, List.getElem_cons_zero, List.getElem_cons_succ, List.setIfInBounds_toArray, List.set_cons_zero, List.set_cons_succ]
            refine wpAnyIn_ready (rs := [4]) (by kernel_rfl) (by simp) ?_
            refine AllReadyIn.cons rfl (fun K0 hK0 => ?_) (AllReadyIn.nil)
            (try simp only [List.getElem_toArray, List.getElem_cons_zero, List.getElem_cons_succ])
            go_simp
            refine ⟨trivial, (CallsIn.inRound l (callsIn_wide.2 (hOf.out _ _ hu))).mono ?_⟩
            rintro e wo ⟨rfl, hbo⟩
            have hbW := Lib.hid (ext_trans (below_drew _ W) hbo)
            have hco := hcv.out _ hbW.out
            have hcl := hcv.out _ (ext_alloc hbW.out (.cells #[.string xb] 9))
            clear hu hbo
            (try go_simp)
            refine hK0 _ _ ?_
            clear hK0 K0
            try simp only [Act.put, List.getElem_toArray, List.getElem_cons_zero, List.getElem_cons_succ, List.setIfInBounds_toArray, List.set_cons_zero, List.set_cons_succ]
            refine wpAnyIn_ready (rs := [5]) (by kernel_rfl) (by simp) ?_
            refine AllReadyIn.cons rfl (fun K0 hK0 => ?_) (AllReadyIn.nil)
            (try simp only [List.getElem_toArray, List.getElem_cons_zero, List.getElem_cons_succ])
            go_simp
            refine hK0 _ _ ?_
            clear hK0 K0
            try simp only [Act.put, List.getElem_toArray, List.getElem_cons_zero, List.getElem_cons_succ, List.setIfInBounds_toArray, List.set_cons_zero, List.set_cons_succ]
            refine wpAnyIn_ready (rs := [6]) (by kernel_rfl) (by simp) ?_
            refine AllReadyIn.cons rfl (fun K0 hK0 => ?_) (AllReadyIn.nil)
            refine step_app_in _ _ 199 (by rfl) (by rfl) (w.heap.size + 4) 9 i9 (.string ⟨#[]⟩) 1 16 Try.underlying199 hi hz hsz hby rfl (by decide) v pre.length _ (by rfl) ((ownsRow_keep hrow fun j hj => hbW.out.block j (hrow.lt j hj).2).alloc (.cells #[.string xb] 9)) ⟨wo.heap.size, 0, none⟩ 1 1 [.string xb] (by rfl) rfl (cell_one_new _ _ _) (by simp [Value.oneCell']) (by unfold maxLen; omega) (by omega) (by have := hbW.out.size; simp; omega) ?_
            intro v1 w1 hown' hgrow _
            obtain ⟨g', cap', rfl⟩ := ownsRow_succ hown'
            have hF := Lib.hid (Of_round hv hrow hbW.out hown' hgrow)
            have hc1 := hF.out.1.cell
            have hf1 := hF.out.1.frozen
            clear hown' hgrow
            refine hK0 _ _ ?_
            clear hK0 K0
            try simp only [Act.put, List.getElem_toArray, List.getElem_cons_zero, List.getElem_cons_succ, List.setIfInBounds_toArray, List.set_cons_zero, List.set_cons_succ]
            refine wpAnyIn_ready (rs := [7]) (by kernel_rfl) (by simp) ?_
            refine AllReadyIn.cons rfl (fun K0 hK0 => ?_) (AllReadyIn.nil)
            (try simp only [List.getElem_toArray, List.getElem_cons_zero, List.getElem_cons_succ])
            go_simp
            refine hK0 _ _ ?_
            clear hK0 K0
            try simp only [Act.put, List.getElem_toArray, List.getElem_cons_zero, List.getElem_cons_succ, List.setIfInBounds_toArray, List.set_cons_zero, List.set_cons_succ]
            refine wpAnyIn_done (by kernel_rfl) ?_ _
            gi_wp2_with fail
            have hF2 := hF.out
            refine ⟨(hF2.2.2.2.1).from _, hF2.2.2.2.2, ⟨⟨_, hF2.2.1, by simpa [hxb.out] using hF2.2.2.1, trivial⟩, ?_, ?_, ?_⟩⟩
            · exact (World.cell?_of_block (w := W) (a := ⟨w.heap.size, 0, none⟩) (hF2.2.2.2.2.block w.heap.size (by omega) (by omega))).trans hcell
            · exact hB.trans ⟨hF2.2.2.2.2.os, hF2.2.2.2.2.tape, hF2.2.2.2.2.output, hF2.2.2.2.2.size, fun k hk => hF2.2.2.2.2.block k (by omega) (by omega)⟩
            · have := hF2.2.2.2.2.size; omega
          · (try simp only [List.getElem_toArray, List.getElem_cons_zero, List.getElem_cons_succ])
            go_simp
            refine ⟨trivial, (CallsIn.inRound l (callsIn_wide.2 (hOf.out _ _ hu))).mono ?_⟩
            rintro e wo ⟨rfl, hbo⟩
            have hbW := Lib.hid (ext_trans (below_drew _ W) hbo)
            have hco := hcv.out _ hbW.out
            have hcl := hcv.out _ (ext_alloc hbW.out (.cells #[.string xb] 9))
            clear hu hbo
            (try go_simp)
            refine hK0 _ _ ?_
            clear hK0 K0
            try simp only [Act.put, List.getElem_toArray, List.getElem_cons_zero, List.getElem_cons_succ, List.setIfInBounds_toArray, List.set_cons_zero, List.set_cons_succ]
            refine wpAnyIn_ready (rs := [0, 5]) (by kernel_rfl) (by simp) ?_
            refine AllReadyIn.cons rfl (fun K0 hK0 => ?_) (AllReadyIn.cons rfl (fun K0 hK0 => ?_) (AllReadyIn.nil))
            · (try simp only [List.getElem_toArray, List.getElem_cons_zero])
              go_simp
              refine hK0 _ _ ?_
              clear hK0 K0
              try simp only [Act.put, List.getElem_toArray, List.getElem_cons_zero, List.getElem_cons_succ, List.setIfInBounds_toArray, List.set_cons_zero, List.set_cons_succ]
              refine wpAnyIn_ready (rs := [5]) (by kernel_rfl) (by simp) ?_
              refine AllReadyIn.cons rfl (fun K0 hK0 => ?_) (AllReadyIn.nil)
              (try simp only [List.getElem_toArray, List.getElem_cons_zero, List.getElem_cons_succ])
              go_simp
              refine hK0 _ _ ?_
              clear hK0 K0
              try simp only [Act.put, List.getElem_toArray, List.getElem_cons_zero, List.getElem_cons_succ, List.setIfInBounds_toArray, List.set_cons_zero, List.set_cons_succ]
              refine wpAnyIn_ready (rs := [6]) (by kernel_rfl) (by simp) ?_
              refine AllReadyIn.cons rfl (fun K0 hK0 => ?_) (AllReadyIn.nil)
              refine step_app_in _ _ 199 (by rfl) (by rfl) (w.heap.size + 4) 9 i9 (.string ⟨#[]⟩) 1 16 Try.underlying199 hi hz hsz hby rfl (by decide) v pre.length _ (by rfl) ((ownsRow_keep hrow fun j hj => hbW.out.block j (hrow.lt j hj).2).alloc (.cells #[.string xb] 9)) ⟨wo.heap.size, 0, none⟩ 1 1 [.string xb] (by rfl) rfl (cell_one_new _ _ _) (by simp [Value.oneCell']) (by unfold maxLen; omega) (by omega) (by have := hbW.out.size; simp; omega) ?_
              intro v1 w1 hown' hgrow _
              obtain ⟨g', cap', rfl⟩ := ownsRow_succ hown'
              have hF := Lib.hid (Of_round hv hrow hbW.out hown' hgrow)
              have hc1 := hF.out.1.cell
              have hf1 := hF.out.1.frozen
              clear hown' hgrow
              refine hK0 _ _ ?_
              clear hK0 K0
              try simp only [Act.put, List.getElem_toArray, List.getElem_cons_zero, List.getElem_cons_succ, List.setIfInBounds_toArray, List.set_cons_zero, List.set_cons_succ]
              refine wpAnyIn_ready (rs := [7]) (by kernel_rfl) (by simp) ?_
              refine AllReadyIn.cons rfl (fun K0 hK0 => ?_) (AllReadyIn.nil)
              (try simp only [List.getElem_toArray, List.getElem_cons_zero, List.getElem_cons_succ])
              go_simp
              refine hK0 _ _ ?_
              clear hK0 K0
              try simp only [Act.put, List.getElem_toArray, List.getElem_cons_zero, List.getElem_cons_succ, List.setIfInBounds_toArray, List.set_cons_zero, List.set_cons_succ]
              refine wpAnyIn_done (by kernel_rfl) ?_ _
              gi_wp2_with fail
              have hF2 := hF.out
              refine ⟨(hF2.2.2.2.1).from _, hF2.2.2.2.2, ⟨⟨_, hF2.2.1, by simpa [hxb.out] using hF2.2.2.1, trivial⟩, ?_, ?_, ?_⟩⟩
              · exact (World.cell?_of_block (w := W) (a := ⟨w.heap.size, 0, none⟩) (hF2.2.2.2.2.block w.heap.size (by omega) (by omega))).trans hcell
              · exact hB.trans ⟨hF2.2.2.2.2.os, hF2.2.2.2.2.tape, hF2.2.2.2.2.output, hF2.2.2.2.2.size, fun k hk => hF2.2.2.2.2.block k (by omega) (by omega)⟩
              · have := hF2.2.2.2.2.size; omega
            · (try simp only [List.getElem_toArray, List.getElem_cons_zero, List.getElem_cons_succ])
              go_simp
              refine hK0 _ _ ?_
              clear hK0 K0
              try simp only [Act.put, List.getElem_toArray, List.getElem_cons_zero, List.getElem_cons_succ, List.setIfInBounds_toArray, List.set_cons_zero, List.set_cons_succ]
              refine wpAnyIn_ready (rs := [0]) (by kernel_rfl) (by simp) ?_
              refine AllReadyIn.cons rfl (fun K0 hK0 => ?_) (AllReadyIn.nil)
              (try simp only [List.getElem_toArray, List.getElem_cons_zero])
              go_simp
              refine hK0 _ _ ?_
              clear hK0 K0
              try simp only [Act.put, List.getElem_toArray, List.getElem_cons_zero, List.getElem_cons_succ, List.setIfInBounds_toArray, List.set_cons_zero, List.set_cons_succ]
              refine wpAnyIn_ready (rs := [6]) (by kernel_rfl) (by simp) ?_
              refine AllReadyIn.cons rfl (fun K0 hK0 => ?_) (AllReadyIn.nil)
              refine step_app_in _ _ 199 (by rfl) (by rfl) (w.heap.size + 4) 9 i9 (.string ⟨#[]⟩) 1 16 Try.underlying199 hi hz hsz hby rfl (by decide) v pre.length _ (by rfl) ((ownsRow_keep hrow fun j hj => hbW.out.block j (hrow.lt j hj).2).alloc (.cells #[.string xb] 9)) ⟨wo.heap.size, 0, none⟩ 1 1 [.string xb] (by rfl) rfl (cell_one_new _ _ _) (by simp [Value.oneCell']) (by unfold maxLen; omega) (by omega) (by have := hbW.out.size; simp; omega) ?_
              intro v1 w1 hown' hgrow _
              obtain ⟨g', cap', rfl⟩ := ownsRow_succ hown'
              have hF := Lib.hid (Of_round hv hrow hbW.out hown' hgrow)
              have hc1 := hF.out.1.cell
              have hf1 := hF.out.1.frozen
              clear hown' hgrow
              refine hK0 _ _ ?_
              clear hK0 K0
              try simp only [Act.put, List.getElem_toArray, List.getElem_cons_zero, List.getElem_cons_succ, List.setIfInBounds_toArray, List.set_cons_zero, List.set_cons_succ]
              refine wpAnyIn_ready (rs := [7]) (by kernel_rfl) (by simp) ?_
              refine AllReadyIn.cons rfl (fun K0 hK0 => ?_) (AllReadyIn.nil)
              (try simp only [List.getElem_toArray, List.getElem_cons_zero, List.getElem_cons_succ])
              go_simp
              refine hK0 _ _ ?_
              clear hK0 K0
              try simp only [Act.put, List.getElem_toArray, List.getElem_cons_zero, List.getElem_cons_succ, List.setIfInBounds_toArray, List.set_cons_zero, List.set_cons_succ]
              refine wpAnyIn_done (by kernel_rfl) ?_ _
              gi_wp2_with fail
              have hF2 := hF.out
              refine ⟨(hF2.2.2.2.1).from _, hF2.2.2.2.2, ⟨⟨_, hF2.2.1, by simpa [hxb.out] using hF2.2.2.1, trivial⟩, ?_, ?_, ?_⟩⟩
              · exact (World.cell?_of_block (w := W) (a := ⟨w.heap.size, 0, none⟩) (hF2.2.2.2.2.block w.heap.size (by omega) (by omega))).trans hcell
              · exact hB.trans ⟨hF2.2.2.2.2.os, hF2.2.2.2.2.tape, hF2.2.2.2.2.output, hF2.2.2.2.2.size, fun k hk => hF2.2.2.2.2.block k (by omega) (by omega)⟩
              · have := hF2.2.2.2.2.size; omega
  case done =>
    rintro D ys W hD hys ⟨⟨v, hv, hrow, -⟩, hcell, hB, hsz4⟩ hK
    have hyl : ys.length = (tmOf t).parts.length := by
      have h1 := congrArg List.length (Of_row HT.out.1 HT.out.2 hys)
      rwa [List.length_map, List.length_map] at h1
    rw [Of_row HT.out.1 HT.out.2 hys, hyl] at hrow
    have htx := Lib.hid (txt_parts (tmOf t))
    have htl : (tmOf t).txt.length ≤ 1000 := by
      have h1 := txt_len (tmOf t)
      have h2 := size_flat (tmOf t)
      rw [(tm_chk HT.out.1).2] at h2
      omega
    rw [hsg.out] at htx
    have hpl : (tmOf t).parts.length ≤ 2 := by
      have h1 := congrArg List.length hys
      rw [List.length_map] at h1
      omega
    clear hys hyl
    generalize (tmOf t).parts = ps at *
    have hc := hv.cell
    have HB : Hid (Below w.heap.size w (W.putObj D (.deferred none))) := hB.trans (belowK_b (w := W0) (by omega) W D _ _ hD hK rfl rfl)
    cases ps with
    | nil =>
      obtain ⟨sa, sc, rfl⟩ : ∃ a c, v = .slice a 0 c := by
        rcases hrow.2 with ⟨h1, -⟩ | ⟨g, cap, cur, h1, _⟩
        · exact ⟨none, 0, h1⟩
        · exact ⟨_, cap, h1⟩
      have hX := htx.out
      rw [if_pos rfl] at hX
      have HX := Lib.hid hX
      clear htx hX
      gi_wp2_with fail
      refine ⟨by simp, .inl ⟨_, _, rfl, run_takeDeferred hK, ?_⟩⟩
      exact ⟨_, results_tmp rfl _ _ _, by rw [HX.out]; rfl, HB.out⟩
    | cons p ps =>
      obtain ⟨g, cap, rfl⟩ := ownsRow_succ hrow
      have hX := htx.out
      rw [if_neg (by simp), ← Of_join] at hX
      have HX := Lib.hid hX
      have hcs := Of_cells hrow
      have hgl := (hrow.lt g rfl).2
      have hJl : (Lib.join (((p :: ps).map txB).map (·.data.toList)) [44]).length ≤ 1000 := by
        rw [hX] at htl; simp only [List.length_append] at htl; omega
      have hplen : ((p :: ps).map txB).length = ps.length + 1 := by simp
      have hpl2 : ps.length + 1 ≤ cap := by
        rcases hrow.2 with ⟨h1, -⟩ | ⟨g', cap', cur, h1, -, -, h2, -⟩
        · cases h1
        · cases h1; exact h2
      have hJc := Try.strings_Join g 0 cap ((p :: ps).map txB) ⟨#[44]⟩ W hcs hgl (by rw [hplen]; simp at hpl; omega) (by rw [hplen]; exact hpl2) (by exact Nat.le_trans hJl (by omega))
      rw [hplen] at hJc
      have hJc' : Calls Try.prog 183 #[.slice (some ⟨g, 0, none⟩) (ps.length + 1) cap, .string ⟨#[44]⟩] W fun e w' => e = .returned (.string ⟨(Lib.join (((p :: ps).map txB).map (·.data.toList)) [44]).toArray⟩) ∧ Below W.heap.size W w' := hJc
      have HJ := Lib.hid hJc'
      clear hJc hJc' hcs hpl2 hplen hrow hX htx hpl
      generalize Lib.join (((p :: ps).map txB).map (·.data.toList)) [44] = J at *
      generalize ltr (nth t 0) = c at *
      have ha1 := add_str (⟨#[c]⟩ ++ ⟨#[40]⟩) ⟨J.toArray⟩ (by rw [size_add, size_bytes [c], size_bytes [40], size_bytes J]; simp; omega)
      have ha2 := add_str (⟨#[c]⟩ ++ ⟨#[40]⟩ ++ ⟨J.toArray⟩) ⟨#[41]⟩ (by rw [size_add, size_add, size_bytes [c], size_bytes [40], size_bytes J, size_bytes [41]]; simp; omega)
      gi_wp2_with fail
      refine ⟨trivial, (callsIn_wide.2 HJ.out).mono ?_⟩
      rintro e w2 ⟨rfl, hB2⟩
      have hK2 : w2.heap[D]? = some (.deferred (some [])) := (hB2.block D (Array.getElem?_eq_some_iff.1 hK).1).trans hK
      have HB2 : Hid (Below w.heap.size w (w2.putObj D (.deferred none))) := (ext_trans hB hB2).trans (belowK_b (w := W0) (by omega) w2 D _ _ hD hK2 rfl rfl)
      gi_wp2_with fail
      refine ⟨by simp, .inl ⟨_, _, rfl, run_takeDeferred hK2, ?_⟩⟩
      refine ⟨_, results_tmp rfl _ _ _, ?_, HB2.out⟩
      rw [HX.out, ← bytes_app, ← bytes_app, ← bytes_app]
      rfl
  case stop =>
    rintro D c pre W _ _ h _
    exact h.elim

theorem paT_lenT (t : List Int) (k : Nat) : (paT t k).length ≤ t.length - k := by
  unfold paT
  rw [List.length_take, List.length_drop]; omega
theorem TOf_calls : ∀ (N : Nat) (t : List Int), chk t = 0 → t.length ≤ N → ∀ (v : Value) (w : World), IsInts Any w v t →
    Calls Try.prog 145 #[v] w fun e w' => e = .returned (.string ⟨(tmOf t).txt.toArray⟩) ∧ Below w.heap.size w w'
  | 0, t, ht, hl, v, w, hv => absurd (List.eq_nil_of_length_eq_zero (by omega)) (ne_of_chk ht)
  | N + 1, t, ht, hl, v, w, hv => Of_step t ht v w hv fun k hk h0 u W hu => by
    obtain ⟨c1, c2⟩ := chk_part ht hk
    have h3 := paT_lenT t k
    have := TOf_calls N (paT t k) c1 (by omega) u W hu
    rwa [c2] at this

/-- What Show answers. -/
def shT (t : List Int) : List UInt8 := if chk t = 0 then (tmOf t).txt else []
set_option maxRecDepth 100000 in
theorem Show_calls (t : List Int) (v : Value) (w : World) (hv : IsInts Any w v t) :
    Calls Try.prog 76 #[v] w fun e w' => e = .returned (.tuple #[.string ⟨(shT t).toArray⟩, .int .i64 (chk t)]) ∧ Below w.heap.size w w' := by
  have hC := Lib.hid (Check_calls t v w hv)
  by_cases hc : chk t = 0
  · have hO := Lib.hid (TOf_calls t.length t hc (Nat.le_refl _) v w hv)
    have hs : Hid (shT t = (tmOf t).txt) := if_pos hc
    have HC := Lib.hid hc
    rw [hc] at hC
    clear hc hv
    go_enter Try.func76, Try.ntmps76
    go_wp2_with fail
    refine hC.out.mono ?_
    rintro e w' ⟨rfl, rfl⟩
    go_wp2_with fail
    refine hO.out.mono ?_
    rintro e w' ⟨rfl, hB⟩
    go_wp2_with fail
    go_ret2
    rw [hs.out, HC.out]
    exact ⟨rfl, hB⟩
  · have hs : Hid (shT t = []) := if_neg hc
    have hcb : (chk t != 0) = true := by simpa using hc
    clear hc hv
    go_enter Try.func76, Try.ntmps76
    go_wp2_with fail
    refine hC.out.mono ?_
    rintro e w' ⟨rfl, rfl⟩
    go_wp2_with fail
    go_ret2
    rw [hs.out]
    exact ⟨rfl, .refl _ _⟩

end Go.Proofs.Ytepddehodmljeaa
