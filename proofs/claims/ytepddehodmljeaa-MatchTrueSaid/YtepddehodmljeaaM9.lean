/- Walks: match.Over. -/
import Derived.Test.YtepddehodmljeaaM8
import Derived.Maps.AppendAt
namespace Go.Proofs.Ytepddehodmljeaa
open Go.RowKit Go.Maps Go.Shelf
attribute [local go_sem] Oper.semAt_some

theorem Places_stops (n : Nat) (hn : 1 ≤ n) (Bt Bp : Nat) (M : Blk) (t p : List Int) (ht : chk t = 0) (hp : chk p = 0) (v x : Value) (w : World) (hBt : w.cell? ⟨Bt, 0, none⟩ = some v) (hBp : w.cell? ⟨Bp, 0, none⟩ = some x)
    (hlt : Bt < w.heap.size) (hlp : Bp < w.heap.size) (hMt : ¬ M Bt) (hMp : ¬ M Bp) (hM : ∀ l, w.heap.size ≤ l → M l) (hv : IsInts (fun b => ¬ M b) w v t) (hx : IsInts (fun b => ¬ M b) w x p) :
    SeqStopsK Fence.wide n Try.prog 171 #[.pointer (some ⟨Bt, 0, none⟩), .pointer (some ⟨Bp, 0, none⟩)] (fun y : Nat × Value => #[Value.int .i64 (y.1 : Nat), y.2]) (Keeps M) (fun ys => ys.map (fun y => (y.1 : Int)) = ovr t p t.length) (fun _ => True) t.length w :=
  fun l J Jx W hW hJ _ hY h0 => Places1_in n hn l Bt Bp M t p ht hp v x J Jx hY W hJ ((hW.cell (p := ⟨Bt, 0, none⟩) hlt).trans hBt) ((hW.cell (p := ⟨Bp, 0, none⟩) hlp).trans hBp) (Nat.lt_of_lt_of_le hlt hW.size) (Nat.lt_of_lt_of_le hlp hW.size) hMt hMp
    (fun l hl => hM l (Nat.le_trans hW.size hl)) (hv.mono ⟨hW.size, fun b hb hl => ⟨hb, hW.block b hl⟩⟩) (hx.mono ⟨hW.size, fun b hb hl => ⟨hb, hW.block b hl⟩⟩) h0

theorem Places_calls (v x : Value) (w : World) (hv : v.oneCell' = true) (hx : x.oneCell' = true) :
    Calls Try.prog 111 #[v, x] w fun e w' => e = .returned (.func (.func 171) #[] #[.pointer (some ⟨w.heap.size, 0, none⟩), .pointer (some ⟨w.heap.size + 1, 0, none⟩)]) ∧ w' = (w.alloc (.cells #[v] 24)).alloc (.cells #[x] 24) := by
  go_enter Try.func111, Try.ntmps111
  go_wp2_with fail
  go_ret
  exact ⟨rfl, rfl⟩

/-- The places so far. -/
def plN (ys : List (Nat × Value)) : List Int := ys.map fun y => (y.1 : Int)
theorem plN_snoc (ys : List (Nat × Value)) (y : Nat × Value) : plN (ys ++ [y]) = plN ys ++ [(y.1 : Int)] := by simp [plN]

set_option maxRecDepth 100000 in
set_option maxHeartbeats 2000000 in
theorem Over_ok (t p : List Int) (u v : Value) (w : World) (hu : IsInts Any w u t) (hv : IsInts Any w v p) (h : chk2 t p = 0) :
    Calls Try.prog 49 #[u, v] w fun e w' => ∃ x, e = .returned (.tuple #[x, .int .i64 0]) ∧ IsInts (Fr w.heap.size) w' x (ovr t p t.length) ∧ Below w.heap.size w w' := by
  obtain ⟨i3, hi, hz, hsz, hby⟩ := info_parts Try.inf3
  have h1 := Lib.hid (Both_calls t p u v w hu hv)
  rw [h] at h1
  obtain ⟨ht, hp⟩ := chk2_zero h
  have hl := len_of_chk ht
  have hT := Lib.hid (And.intro ht hp)
  have hu0 := Lib.hid hu
  have hv0 := Lib.hid hv
  obtain ⟨ua, uc, rfl⟩ := hu.isSlice
  obtain ⟨va, vc, rfl⟩ := hv.isSlice
  clear hu hv h ht hp
  refine (callsIn_wide (n := 5)).1 ?_
  refine callsIn_of_wp_marks Try.func49 rfl trivial ?_ rfl
  simp only [Try.ntmps49, List.size_toArray, List.length_cons, List.length_nil, Nat.reduceAdd, Nat.reduceSub, Array.replicate_succ, Array.replicate_zero, List.push_toArray, List.append_toArray, List.nil_append, List.cons_append]
  gi_wp2_with fail
  refine ⟨trivial, (callsIn_wide.2 h1.out).mono ?_⟩
  rintro e w' ⟨rfl, rfl⟩
  gi_wp2_with fail
  refine ⟨trivial, (callsIn_wide.2 (Places_calls (.slice ua t.length uc) (.slice va p.length vc) _ rfl rfl)).mono ?_⟩
  rintro e w' ⟨rfl, rfl⟩
  gi_wp2_with fail
  have b0 := Boxed.new w 23 (.slice none 0 0)
  obtain ⟨W0, hW0⟩ : ∃ W0, W0 = ((w.alloc (.cells #[.slice none 0 0] 23)).alloc (.cells #[.slice ua t.length uc] 24)).alloc (.cells #[.slice va p.length vc] 24) := ⟨_, rfl⟩
  rw [← hW0]
  have hz0 : W0.heap.size = w.heap.size + 3 := by rw [hW0]; simp
  have hB0 : Below w.heap.size w W0 := by
    rw [hW0]; exact ext_alloc (ext_alloc (below_alloc _ _) _) _
  have b1 : Boxed W0 w.heap.size 23 (.slice none 0 0) := by rw [hW0]; exact (b0.alloc _).alloc _
  have c2 : W0.cell? ⟨w.heap.size + 1, 0, none⟩ = some (.slice ua t.length uc) := by rw [hW0]; simp [go_sem]
  have c3 : W0.cell? ⟨w.heap.size + 1 + 1, 0, none⟩ = some (.slice va p.length vc) := by rw [hW0]; simp [go_sem]
  clear hW0 b0
  refine wpIn_rangeFunc_ownG rfl (by omega) (gf := 171) (lb := #[.pointer (some ⟨w.heap.size + 1, 0, none⟩), .pointer (some ⟨w.heap.size + 1 + 1, 0, none⟩)]) rfl trivial (enters_of Try.func171 (by kernel_rfl) rfl)
    (Places_stops _ (by omega) (w.heap.size + 1) (w.heap.size + 1 + 1) (fun i => i = w.heap.size ∨ w.heap.size + 3 ≤ i) t p hT.out.1 hT.out.2 _ _ W0 c2 c3 (by omega) (by omega) (by omega) (by omega) (by intro l hl; right; omega)
      (hu0.out.mono ⟨hB0.size, fun b _ hb => ⟨by omega, hB0.block b hb⟩⟩) (hv0.out.mono ⟨hB0.size, fun b _ hb => ⟨by omega, hB0.block b hb⟩⟩)) Keeps.trans (keepsK_b (by intro l hl; right; omega)) (Below.refl _ _) (fun _ => rfl)
    (fun pre W => (∃ v, Boxed W w.heap.size 23 v ∧ W.ownsRow (w.heap.size + 3) 3 1 v (plN pre).length ((plN pre).map (Value.int .i64)) ∧ True) ∧ (Below w.heap.size w W ∧ w.heap.size + 3 ≤ W.heap.size))
    (fun _ _ _ => False)
    (OwnFrom.and (Own.from (holdsRow_own (w.heap.size + 3) w.heap.size 23 3 1 (fun pre => (plN pre).length) (fun pre => (plN pre).map (Value.int .i64)) (fun _ _ => True)) _) (OwnFrom.and (ownFrom_below (Nat.le_refl _) (by omega)) (fun _ _ _ _ hs hg _ => Nat.le_trans hs hg.size)))
    (fun _ _ _ _ _ hs _ _ => hs)
    ⟨⟨_, b1, World.ownsRow_nil _ _ _ _, trivial⟩, hB0, by omega⟩
    (fun y => { tmps := #[.slice ua t.length uc, .slice va p.length vc, undef, undef, .slice none 0 0,
          .int .i64 0, .int .i64 0, .pointer (some ⟨w.heap.size, 0, none⟩),
          .int .i64 y.1, .slice ua t.length uc, .slice va p.length vc, .int .i64 0,
          .int .i64 0, .bool false, undef, .slice ua t.length uc, .slice va p.length vc,
          .func (.func 171) #[] #[.pointer (some ⟨w.heap.size + 1, 0, none⟩), .pointer (some ⟨w.heap.size + 1 + 1, 0, none⟩)],
          .int .i64 y.1, y.2, undef, undef, undef, undef, undef], defers := [] }) ?assign ?body ?done ?stop
  case assign =>
    intro l x W K hK
    gi_wp2
    exact hK
  case body =>
    rintro l pre y W ⟨⟨v, hv, hrow, -⟩, hB, hsz3⟩ hlt
    have hc := hv.cell
    have hbs := hB.size
    have hvl := hv.lt
    have hpl : (plN pre).length = pre.length := by simp [plN]
    have hrb : ∀ k, v.ownBlock = some k → w.heap.size + 3 ≤ k := fun k hk => (hrow.lt k hk).1
    have HP := Lib.hid hpl
    have hpl2 : (plN pre).length ≤ 30 := by omega
    obtain ⟨oa, oc, rfl⟩ : ∃ a c, v = .slice a (plN pre).length c := by
      rcases hrow.2 with ⟨h1, h0⟩ | ⟨g, cap, cur, h1, _⟩
      · exact ⟨none, 0, by rw [h0]; exact h1⟩
      · exact ⟨_, cap, h1⟩
    clear hpl
    gi_wp2_with (gi_at_builtin; refine wpListIn_append_own _ rfl _ _ 23 rfl (w.heap.size + 3) 3 i3 (.int .i64 0) 1 8 Try.underlying23 hi hz hsz hby rfl (by decide) _ _ _ rfl (hrow.alloc _) ⟨W.heap.size, 0, none⟩ 1 1 [.int .i64 y.1] rfl rfl (cell_one_new _ _ _) (by simp [Value.oneCell']) (by unfold maxLen; omega) (by omega) (by simp; omega) ?_; intro v' w1 hown' hgrow _; obtain ⟨g', cap', rfl⟩ := ownsRow_succ hown'; have hv1 := (hv.alloc (.cells #[.int .i64 y.1] 3)).kept hgrow (fun e => by have := hrb _ e.symm; omega); have hc1 := hv1.cell; have hf1 := hv1.frozen)
    have hgr : (W.alloc (.cells #[.int .i64 y.1] 3)).grownBy w1 (Value.slice oa (plN pre).length oc).ownBlock := hgrow
    have hK1 : Keeps (fun i => i = w.heap.size ∨ w.heap.size + 3 ≤ i) W (w1.setCell ⟨w.heap.size, 0, none⟩ (.slice (some ⟨g', 0, none⟩) ((plN pre).length + 1) cap')) := by
      refine ⟨hgr.os, hgr.tape, hgr.output, ?_, fun k hk hm => ?_⟩
      · have := hgr.size; simp at this ⊢; omega
      · rw [Below.heap_setCell _ _ _ _ (fun e => hm (.inl e)), hgr.block k (by simp; omega) (fun e => hm (.inr (hrb k e.symm))), Below.heap_alloc _ _ _ hk]
    refine ⟨?_, hK1, ⟨⟨_, hv1.set _, ?_, trivial⟩, ?_, ?_⟩⟩
    · refine (((KeepsOthers.alloc W _).trans (KeepsOthers.of_grownBy hgr fun j o ej hj => ?_)).trans (KeepsOthers.setCell _ _ _)).from _
      rcases (hrow.alloc (.cells #[.int .i64 y.1] 3)).2 with ⟨h1, _⟩ | ⟨g, cap, cur, h1, _, hgb, _⟩
      · rw [h1] at ej; simp [Value.ownBlock] at ej
      · rw [h1] at ej
        obtain rfl : g = j := by simpa [Value.ownBlock] using ej
        rw [hgb] at hj; cases hj; rfl
    · have h2 := hown'.kept (grownBy_setCell' w1 w.heap.size (.slice (some ⟨g', 0, none⟩) ((plN pre).length + 1) cap')) (.inr (by have := (hown'.lt g' rfl).1; simp [Value.ownBlock]; omega))
      rw [plN_snoc]
      simpa using h2
    · exact hB.trans ⟨hK1.os, hK1.tape, hK1.output, hK1.size, fun k hk => hK1.block k (by omega) (by omega)⟩
    · have := hK1.size; omega
  case done =>
    rintro D ys W hD hys ⟨⟨v, hv, hrow, -⟩, hB, hsz3⟩ hK
    have hc := hv.cell
    have hys' : plN ys = ovr t p t.length := hys
    rw [hys'] at hrow
    have hol := ovr_len t p t.length
    have hR := Lib.hid hrow
    clear hrow hys hys'
    gi_wp2_with fail
    refine ⟨by simp, .inl ⟨_, _, rfl, run_takeDeferred hK, ?_⟩⟩
    refine ⟨_, results_tmp2 rfl _ _ _, v, rfl, ?_, hB.trans (belowK_b (w := W0) (by omega) W D _ _ hD hK rfl rfl)⟩
    have hr2 := ownsRow_putObj hR.out (.deferred none) hK rfl
    refine (ints_of_own hr2 (by omega)).mono (.weak fun b hb => ?_)
    have : w.heap.size + 3 ≤ b := hb
    show w.heap.size ≤ b
    omega
  case stop =>
    rintro D c pre W _ _ h _
    exact h.elim

end Go.Proofs.Ytepddehodmljeaa
