/- Walks: order: same; slices.Collect of parts. -/
import Derived.Test.YtepddehodmljeaaO1
import Derived.Test.YtepddehodmljeaaG5
namespace Go.Proofs.Ytepddehodmljeaa
open Go.RowKit Go.Maps Go.Shelf
attribute [local go_sem] Oper.semAt_some

theorem IsInts.capL {S : Blk} {w : World} {b o n c : Nat} {t : List Int} (h : IsInts S w (.slice (some ⟨b, o, none⟩) n c) t) (hn : t ≠ []) : t.length ≤ c := by
  obtain ⟨-, ⟨h, -⟩ | ⟨-, b', o', c', e, hc, -⟩⟩ := h
  · exact absurd h hn
  · cases e; exact hc
/-- Of a slice with known place: what At answers. -/
theorem At_eq (t : List Int) (ht : chk t = 0) (b o c k : Nat) (w : World) (hv : IsInts Any w (.slice (some ⟨b, o, none⟩) t.length c) t) (hk : k < t.length) :
    Calls Try.prog 117 #[.slice (some ⟨b, o, none⟩) t.length c, .int .i64 k] w fun e w' => e = .returned (.slice (some ⟨b, o + k, none⟩) (enT t k - k) (enT t k - k)) ∧ w = w' := by
  have hp := part_at ht hk
  have h1 := Lib.hid (Skip_calls t (small_of_signs (signs_of_chk ht)) _ w hv t.length k (by omega))
  have hc : t.length ≤ c := hv.capL (fun h => by rw [h] at hk; simp at hk)
  have h2 := hp.2.1
  have h3 := hp.2.2.1
  rw [hp.1] at h1
  generalize enT t k = n at *
  clear hp hv ht
  go_enter Try.func117, Try.ntmps117
  go_wp2_with fail
  refine h1.out.mono ?_
  rintro e w' ⟨rfl, rfl⟩
  clear h1
  go_wp2_with fail
  go_ret
  exact ⟨rfl, rfl⟩
theorem ints_part {S : Blk} {w : World} {b o c : Nat} {t : List Int} (ht : chk t = 0) {k : Nat} (hk : k < t.length) (h : IsInts S w (.slice (some ⟨b, o, none⟩) t.length c) t) :
    IsInts S w (.slice (some ⟨b, o + k, none⟩) (enT t k - k) (enT t k - k)) (paT t k) := by
  have hp := part_at ht hk
  have hpl := paT_len ht hk
  obtain ⟨hlen, ⟨rfl, -⟩ | ⟨hne, b', o', c', e, hcap, hS, hlt, hc⟩⟩ := h
  · simp at hk
  cases e
  refine ⟨by omega, .inr ⟨fun h => by rw [h] at hpl; simp at hpl; omega, b, o + k, _, by rw [hpl], by omega, hS, hlt, fun j hj => ?_⟩⟩
  unfold paT
  rw [nth_take (by omega), nth_drop, Nat.add_assoc]
  exact hc (k + j) (by omega)

/-! ### On trees -/
theorem sub_flat {a : List Int} (ha : chk a = 0) {i : Nat} (hi : i < a.length) : ((tmOf a).sub i).ok ∧ ((tmOf a).sub i).flat = paT a i ∧ ((tmOf a).sub i).sg = nth a i := by
  obtain ⟨hx, hf⟩ := tm_chk ha
  have hi' : i < (tmOf a).size := by rw [← size_flat, hf]; exact hi
  refine ⟨sub_ok hx hi', ?_, ?_⟩
  · have := (tm_at hx hi').2.2.1
    rw [hf] at this
    exact this.symm
  · have := sub_sg hi'
    rw [hf] at this
    exact this.symm
theorem sub_same {a b : List Int} (ha : chk a = 0) (hb : chk b = 0) {i j : Nat} (hi : i < a.length) (hj : j < b.length) : decide (paT a i = paT b j) = decide ((tmOf a).sub i = (tmOf b).sub j) := by
  obtain ⟨h1, h2, -⟩ := sub_flat ha hi
  obtain ⟨h3, h4, -⟩ := sub_flat hb hj
  by_cases e : (tmOf a).sub i = (tmOf b).sub j
  · rw [decide_eq_true e, decide_eq_true]; rw [← h2, ← h4, e]
  · rw [decide_eq_false e, decide_eq_false]
    intro h
    exact e (flat_eq h1 h3 (by rw [h2, h4, h]))
/-- The parts of a part stand at their places. -/
theorem parts_ps {a : List Int} (ha : chk a = 0) {i : Nat} (hi : i < a.length) : ((tmOf a).sub i).parts = (psT a i).map fun k => (tmOf a).sub k := by
  obtain ⟨hx, hf⟩ := tm_chk ha
  obtain ⟨hy, -, e⟩ := sub_flat ha hi
  generalize tmOf a = x at *
  subst hf
  rw [size_flat] at hi
  cases hs : x.sub i with
  | leaf s =>
    rw [hs] at e hy
    have e0 : ar (nth x.flat i) = 0 := by rw [← e]; exact hy
    rw [psT, if_pos e0]; rfl
  | un s c =>
    rw [hs] at e hy
    have e0 : ar (nth x.flat i) = 1 := by rw [← e]; exact hy.1
    have h2 := size_pos c
    have h3 : x.sub (i + 1) = c := by
      rw [sub_sub x i 1 hi (by rw [hs]; simp [Tm.size]; omega), hs]
      show c.sub 0 = _
      rw [sub_zero]
    rw [psT, if_neg (by omega), if_pos e0]
    simp [Tm.parts, h3]
  | bin s c d =>
    rw [hs] at e hy
    have e0 : ar (nth x.flat i) = 2 := by rw [← e]; exact hy.1
    have h1 := sub_size hi
    rw [hs] at h1
    have h2 := size_pos c
    have h2' := size_pos d
    simp only [Tm.size] at h1
    have h3 : x.sub (i + 1) = c := by
      rw [sub_sub x i 1 hi (by rw [hs]; simp [Tm.size]; omega), hs]
      show (if 0 < c.size then c.sub 0 else _) = _
      rw [if_pos h2, sub_zero]
    have h5 : x.sub (i + (c.size + 1)) = d := by
      rw [sub_sub x i (c.size + 1) hi (by rw [hs]; simp [Tm.size]; omega), hs]
      show (if c.size < c.size then _ else d.sub (c.size - c.size)) = _
      rw [if_neg (Nat.lt_irrefl _), Nat.sub_self, sub_zero]
    have h4 := (tm_at hx (k := i + 1) (by omega)).2.1
    rw [h3] at h4
    rw [psT, if_neg (by omega), if_neg (by omega), h4]
    simp [Tm.parts, h3, show i + 1 + c.size = i + (c.size + 1) by omega, h5]
theorem ps_lt {a : List Int} (ha : chk a = 0) {i k : Nat} (hi : i < a.length) (hk : k ∈ psT a i) : k < a.length ∧ i < k ∧ ((tmOf a).sub k).size < ((tmOf a).sub i).size := by
  refine ⟨?_, ?_, size_part ?_⟩
  · obtain ⟨j, hj, rfl⟩ := List.getElem_of_mem hk
    rw [psT_len] at hj
    have h1 := psN_lt ha hi hj
    have h2 : (psT a i)[j]'(by rw [psT_len]; exact hj) = psN a i j := by
      have := psT_take hj
      have h3 : (psT a i).take (j + 1) = (psT a i).take j ++ [(psT a i)[j]'(by rw [psT_len]; exact hj)] := List.take_succ_eq_append_getElem (by rw [psT_len]; exact hj)
      rw [h3] at this
      exact (List.cons.inj (List.append_cancel_left this)).1.symm
    rw [h2]; exact h1.1
  · obtain ⟨j, hj, rfl⟩ := List.getElem_of_mem hk
    rw [psT_len] at hj
    have h1 := psN_lt ha hi hj
    have h2 : (psT a i)[j]'(by rw [psT_len]; exact hj) = psN a i j := by
      have := psT_take hj
      have h3 : (psT a i).take (j + 1) = (psT a i).take j ++ [(psT a i)[j]'(by rw [psT_len]; exact hj)] := List.take_succ_eq_append_getElem (by rw [psT_len]; exact hj)
      rw [h3] at this
      exact (List.cons.inj (List.append_cancel_left this)).1.symm
    rw [h2]; exact h1.2
  · rw [parts_ps ha hi]; exact List.mem_map.2 ⟨k, hk, rfl⟩

/-! ### Parts, collected -/
def plI (ys : List Nat) : List Int := ys.map fun (n : Nat) => (n : Int)
theorem plI_snoc (ys : List Nat) (y : Nat) : plI (ys ++ [y]) = plI ys ++ [(y : Int)] := by simp [plI]

set_option maxRecDepth 100000 in
set_option maxHeartbeats 2000000 in
theorem AppendSeq_calls (t : List Int) (ht : chk t = 0) (k : Nat) (hk : k < t.length) (v : Value) (Bk Bt : Nat) (w : World) (hBk : w.cell? ⟨Bk, 0, none⟩ = some (.int .i64 k)) (hBt : w.cell? ⟨Bt, 0, none⟩ = some v)
    (hlk : Bk < w.heap.size) (hlt : Bt < w.heap.size) (hv : IsInts Any w v t) :
    Calls Try.prog 218 #[.slice none 0 0, .func (.func 172) #[] #[.pointer (some ⟨Bk, 0, none⟩), .pointer (some ⟨Bt, 0, none⟩)]] w fun e w' => ∃ x, e = .returned x ∧ IsInts (Fr w.heap.size) w' x (plI (psT t k)) ∧ Below w.heap.size w w' := by
  obtain ⟨i3, hi, hz, hsz, hby⟩ := info_parts Try.inf3
  have hv0 := Lib.hid hv
  have hT := Lib.hid (And.intro ht hk)
  have hln := len_of_chk ht
  have har := ar_le (nth t k)
  have hpsl := psT_len t k
  clear hv ht hk
  refine (callsIn_wide (n := 5)).1 ?_
  refine callsIn_of_wp_marks Try.func218 rfl trivial ?_ rfl
  simp only [Try.ntmps218, List.size_toArray, List.length_cons, List.length_nil, Nat.reduceAdd, Nat.reduceSub, Array.replicate_succ, Array.replicate_zero, List.push_toArray, List.append_toArray, List.nil_append, List.cons_append]
  gi_wp2_with fail
  have b0 := Boxed.new w 23 (.slice none 0 0)
  obtain ⟨W0, hW0⟩ : ∃ W0, W0 = (w.alloc (.cells #[.slice none 0 0] 23)) := ⟨_, rfl⟩
  rw [← hW0]
  have hz0 : W0.heap.size = w.heap.size + 1 := by rw [hW0]; simp
  have hB0 : Below w.heap.size w W0 := by rw [hW0]; exact below_alloc _ _
  have b1 : Boxed W0 w.heap.size 23 (.slice none 0 0) := by rw [hW0]; exact b0
  have c2 : W0.cell? ⟨Bk, 0, none⟩ = some (.int .i64 k) := (hB0.cell (p := ⟨Bk, 0, none⟩) hlk).trans hBk
  have c3 : W0.cell? ⟨Bt, 0, none⟩ = some v := (hB0.cell (p := ⟨Bt, 0, none⟩) hlt).trans hBt
  clear hW0 b0
  refine wpIn_rangeFunc_ownG rfl (by omega) (gf := 172) (lb := #[.pointer (some ⟨Bk, 0, none⟩), .pointer (some ⟨Bt, 0, none⟩)]) rfl trivial (enters_of Try.func172 (by kernel_rfl) rfl)
    (Parts_stops _ (by omega) Bk Bt (fun i => w.heap.size ≤ i) t hT.out.1 k hT.out.2 v W0 c2 c3 (by omega) (by omega) (by omega)
      (hv0.out.mono ⟨hB0.size, fun b _ hb => ⟨by omega, hB0.block b hb⟩⟩)) Keeps.trans (keepsK_b (by intro l hl; omega)) (Below.refl _ _) (fun _ => rfl)
    (fun pre W => (∃ v, Boxed W w.heap.size 23 v ∧ W.ownsRow (w.heap.size + 1) 3 1 v (plI pre).length ((plI pre).map (Value.int .i64)) ∧ True) ∧ (Below w.heap.size w W ∧ w.heap.size + 1 ≤ W.heap.size))
    (fun _ _ _ => False)
    (OwnFrom.and (Own.from (holdsRow_own (w.heap.size + 1) w.heap.size 23 3 1 (fun pre => (plI pre).length) (fun pre => (plI pre).map (Value.int .i64)) (fun _ _ => True)) _) (OwnFrom.and (ownFrom_below (Nat.le_refl _) (by omega)) (fun _ _ _ _ hs hg _ => Nat.le_trans hs hg.size)))
    (fun _ _ _ _ _ hs _ _ => hs)
    ⟨⟨_, b1, World.ownsRow_nil _ _ _ _, trivial⟩, hB0, by omega⟩
    (fun y => { tmps := #[.slice none 0 0, .func (.func 172) #[] #[.pointer (some ⟨Bk, 0, none⟩), .pointer (some ⟨Bt, 0, none⟩)], .pointer (some ⟨w.heap.size, 0, none⟩), undef, .slice none 0 0, .int .i64 y,
          .func (.func 172) #[] #[.pointer (some ⟨Bk, 0, none⟩), .pointer (some ⟨Bt, 0, none⟩)], .int .i64 y, undef, undef, undef, undef, undef], defers := [] }) ?assign ?body ?done ?stop
  case assign =>
    intro l x W K hK
    gi_wp2
    exact hK
  case body =>
    rintro l pre y W ⟨⟨v, hv, hrow, -⟩, hB, hsz3⟩ hlt
    have hc := hv.cell
    have hbs := hB.size
    have hvl := hv.lt
    have hpl : (plI pre).length = pre.length := by simp [plI]
    have hrb : ∀ k, v.ownBlock = some k → w.heap.size + 1 ≤ k := fun k hk => (hrow.lt k hk).1
    have hpl2 : (plI pre).length ≤ 30 := by omega
    obtain ⟨oa, oc, rfl⟩ : ∃ a c, v = .slice a (plI pre).length c := by
      rcases hrow.2 with ⟨h1, h0⟩ | ⟨g, cap, cur, h1, _⟩
      · exact ⟨none, 0, by rw [h0]; exact h1⟩
      · exact ⟨_, cap, h1⟩
    clear hpl
    gi_wp2_with (gi_at_builtin; refine wpListIn_append_own _ rfl _ _ 23 rfl (w.heap.size + 1) 3 i3 (.int .i64 0) 1 8 Try.underlying23 hi hz hsz hby rfl (by decide) _ _ _ rfl (hrow.alloc _) ⟨W.heap.size, 0, none⟩ 1 1 [.int .i64 y] rfl rfl (cell_one_new _ _ _) (by simp [Value.oneCell']) (by unfold maxLen; omega) (by omega) (by simp; omega) ?_; intro v' w1 hown' hgrow _; obtain ⟨g', cap', rfl⟩ := ownsRow_succ hown'; have hv1 := (hv.alloc (.cells #[.int .i64 y] 3)).kept hgrow (fun e => by have := hrb _ e.symm; omega); have hc1 := hv1.cell; have hf1 := hv1.frozen)
    have hgr : (W.alloc (.cells #[.int .i64 y] 3)).grownBy w1 (Value.slice oa (plI pre).length oc).ownBlock := hgrow
    have hK1 : Keeps (fun i => w.heap.size ≤ i) W (w1.setCell ⟨w.heap.size, 0, none⟩ (.slice (some ⟨g', 0, none⟩) ((plI pre).length + 1) cap')) := by
      refine ⟨hgr.os, hgr.tape, hgr.output, ?_, fun k hk hm => ?_⟩
      · have := hgr.size; simp at this ⊢; omega
      · rw [Below.heap_setCell _ _ _ _ (fun e => hm (by simp at e; omega)), hgr.block k (by simp; omega) (fun e => hm (by have := hrb k e.symm; omega)), Below.heap_alloc _ _ _ hk]
    refine ⟨?_, hK1, ⟨⟨_, hv1.set _, ?_, trivial⟩, ?_, ?_⟩⟩
    · refine (((KeepsOthers.alloc W _).trans (KeepsOthers.of_grownBy hgr fun j o ej hj => ?_)).trans (KeepsOthers.setCell _ _ _)).from _
      rcases (hrow.alloc (.cells #[.int .i64 y] 3)).2 with ⟨h1, _⟩ | ⟨g, cap, cur, h1, _, hgb, _⟩
      · rw [h1] at ej; simp [Value.ownBlock] at ej
      · rw [h1] at ej
        obtain rfl : g = j := by simpa [Value.ownBlock] using ej
        rw [hgb] at hj; cases hj; rfl
    · have h2 := hown'.kept (grownBy_setCell' w1 w.heap.size (.slice (some ⟨g', 0, none⟩) ((plI pre).length + 1) cap')) (.inr (by have := (hown'.lt g' rfl).1; simp [Value.ownBlock]; omega))
      rw [plI_snoc]
      simpa using h2
    · exact hB.trans ⟨hK1.os, hK1.tape, hK1.output, hK1.size, fun k hk => hK1.block k (by omega) (by omega)⟩
    · have := hK1.size; omega
  case done =>
    rintro D ys W hD rfl ⟨⟨v, hv, hrow, -⟩, hB, hsz3⟩ hK
    have hc := hv.cell
    have hol : (plI (psT t k)).length ≤ 30 := by simp [plI]; omega
    have hR := Lib.hid hrow
    clear hrow
    gi_wp2_with fail
    refine ⟨by simp, .inl ⟨_, _, rfl, run_takeDeferred hK, ?_⟩⟩
    refine ⟨_, results_tmp rfl _ _ _, v, rfl, ?_, hB.trans (belowK_b (w := W0) (by omega) W D _ _ hD hK rfl rfl)⟩
    have hr2 := ownsRow_putObj hR.out (.deferred none) hK rfl
    refine (ints_of_own hr2 (by omega)).mono (.weak fun b hb => ?_)
    have : w.heap.size + 1 ≤ b := hb
    show w.heap.size ≤ b
    omega
  case stop =>
    rintro D c pre W _ _ h _
    exact h.elim

theorem Collect_calls (t : List Int) (ht : chk t = 0) (k : Nat) (hk : k < t.length) (v : Value) (Bk Bt : Nat) (w : World) (hBk : w.cell? ⟨Bk, 0, none⟩ = some (.int .i64 k)) (hBt : w.cell? ⟨Bt, 0, none⟩ = some v)
    (hlk : Bk < w.heap.size) (hlt : Bt < w.heap.size) (hv : IsInts Any w v t) :
    Calls Try.prog 212 #[.func (.func 172) #[] #[.pointer (some ⟨Bk, 0, none⟩), .pointer (some ⟨Bt, 0, none⟩)]] w fun e w' => ∃ x, e = .returned x ∧ IsInts (Fr w.heap.size) w' x (plI (psT t k)) ∧ Below w.heap.size w w' := by
  have h := Lib.hid (AppendSeq_calls t ht k hk v Bk Bt w hBk hBt hlk hlt hv)
  clear hv hBk hBt ht hk hlk hlt
  go_enter Try.func212, Try.ntmps212
  go_wp2_with fail
  refine h.out.mono ?_
  rintro e w' ⟨x, rfl, hx, hB⟩
  go_wp2_with fail
  go_ret
  exact ⟨_, rfl, hx, hB⟩

end Go.Proofs.Ytepddehodmljeaa
