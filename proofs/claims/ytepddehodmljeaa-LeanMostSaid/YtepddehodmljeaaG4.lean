/- Parts, ends and puts: walks of term and of its reference. -/
import Derived.RangeFuncNested
import Derived.RangeFuncBound
import Derived.RangeFuncCalls
import Derived.RangeFuncLeaves
import Derived.Shelf.Abstract
import Derived.Shelf.RegionOpen
import Derived.OwnWalkIn
import Derived.TacticsInMore
import Derived.LoopNIn
import Derived.LoopIn
import Derived.Outline
import Derived.RangeFuncBox
import Derived.Deep.DeepCutAuto
import Derived.Deep.RegionWith
import Derived.Test.YtepddehodmljeaaG2
namespace Go.Proofs.Ytepddehodmljeaa
open Go.RowKit Go.Maps Go.Shelf
attribute [local go_sem] Oper.semAt_some

/-- The places of the parts of the term that begins at k. -/
def psT (t : List Int) (k : Nat) : List Nat := if ar (nth t k) = 0 then [] else if ar (nth t k) = 1 then [k + 1] else [k + 1, enT t (k + 1)]

/-- The i-th of them. -/
def psN (t : List Int) (k : Nat) (i : Nat) : Nat := if i = 0 then k + 1 else enT t (k + 1)
theorem psT_take {t : List Int} {k i : Nat} (h : i < ar (nth t k)) : (psT t k).take i ++ [psN t k i] = (psT t k).take (i + 1) := by
  have := ar_le (nth t k)
  unfold psT psN
  rcases (by omega : ar (nth t k) = 1 ∨ ar (nth t k) = 2) with e | e
  · rw [e] at h ⊢
    obtain rfl : i = 0 := by omega
    simp
  · rw [e] at h ⊢
    rcases (by omega : i = 0 ∨ i = 1) with rfl | rfl <;> simp
theorem psT_len (t : List Int) (k : Nat) : (psT t k).length = ar (nth t k) := by
  have := ar_le (nth t k)
  unfold psT
  rcases (by omega : ar (nth t k) = 0 ∨ ar (nth t k) = 1 ∨ ar (nth t k) = 2) with e | e | e <;> simp [e]

/-- A part's place lies within. -/
theorem psN_lt {t : List Int} (h : chk t = 0) {k i : Nat} (hk : k < t.length) (hi : i < ar (nth t k)) : psN t k i < t.length ∧ k < psN t k i := by
  obtain ⟨hx, hf⟩ := tm_chk h
  generalize tmOf t = x at *
  subst hf
  rw [size_flat] at hk ⊢
  rw [sub_sg hk] at hi
  have hy := sub_ok hx hk
  have h1 := sub_size hk
  unfold psN
  split
  · rename_i e
    subst e
    refine ⟨?_, by omega⟩
    cases hs : x.sub k with
    | leaf s => rw [hs] at hi hy; have e : ar s = 0 := hy; have e2 : 0 < ar s := hi; omega
    | un s a => rw [hs] at h1; simp only [Tm.size] at h1; have := size_pos a; omega
    | bin s a b => rw [hs] at h1; simp only [Tm.size] at h1; have := size_pos a; omega
  · rename_i e
    have h2 := ar_le (x.sub k).sg
    cases hs : x.sub k with
    | leaf s => rw [hs] at hi hy; have e : ar s = 0 := hy; have e2 : i < ar s := hi; omega
    | un s a => rw [hs] at hi hy; have e1 : ar s = 1 := hy.1; have e2 : i < ar s := hi; omega
    | bin s a b =>
      have h3 : x.sub (k + 1) = a := by
        rw [sub_sub x k 1 hk (by rw [hs]; simp [Tm.size]; have := size_pos a; omega), hs]
        show (if 0 < a.size then a.sub 0 else _) = _
        rw [if_pos (size_pos a), sub_zero]
      rw [hs] at h1
      simp only [Tm.size] at h1
      have h4 := size_pos a
      have h5 := size_pos b
      have h6 := (tm_at hx (k := k + 1) (by omega)).2.1
      rw [h6, h3]
      omega

set_option maxRecDepth 100000 in
set_option maxHeartbeats 1000000 in
theorem Parts1_in (n : Nat) (hn : 1 ≤ n) (l Bk Bt : Nat) (M : Blk) (t : List Int) (ht : chk t = 0) (k : Nat) (hk : k < t.length) (v : Value) (J Jx : List Nat → World → Prop)
    (hY : ∀ pre x W, J pre W → pre.length < (psT t k).length → YieldAt Fence.wide (n - 1) Try.prog l #[.int .i64 (x : Nat)] W fun e W' =>
      (e = .returned (.bool true) ∧ J (pre ++ [x]) W' ∧ Keeps M W W') ∨ (e = .returned (.bool false) ∧ Jx (pre ++ [x]) W'))
    (W : World) (hBk : W.cell? ⟨Bk, 0, none⟩ = some (.int .i64 k)) (hBt : W.cell? ⟨Bt, 0, none⟩ = some v) (hlt : Bt < W.heap.size) (hMt : ¬ M Bt) (hv : IsInts (fun b => ¬ M b) W v t) (h0 : J [] W) :
    CallsIn Fence.wide n Try.prog 172 #[.func (.yield l) #[] #[], .pointer (some ⟨Bk, 0, none⟩), .pointer (some ⟨Bt, 0, none⟩)] W fun e W' => (∃ v, e = .returned v) ∧
      ((∃ ys, ys = psT t k ∧ J ys W') ∨ (∃ pre, pre <+: psT t k ∧ Jx pre W')) := by
  refine callsIn_of_wp Try.func172 rfl trivial ?_ rfl
  simp only [Try.ntmps172, List.size_toArray, List.length_cons, List.length_nil, Nat.reduceAdd, Nat.reduceSub, Array.replicate_succ, Array.replicate_zero, List.push_toArray, List.append_toArray, List.nil_append, List.cons_append]
  have hsm := Lib.hid (small_of_signs (signs_of_chk ht))
  have hln := len_of_chk ht
  have hv0 := Lib.hid hv
  obtain ⟨-, ⟨rfl, -⟩ | ⟨-, b, o, c, rfl, hcap, hbn, hbl, hc⟩⟩ := hv
  · simp at hk
  have hcell := hc k hk
  have hs := hsm.out _ (nth_mem hk)
  have har := ar_le (nth t k)
  have hp := Lib.hid fun i => psN_lt ht hk (i := i)
  have hkk : (k : Int) < t.length := by omega
  have hT := Lib.hid ht
  have hYh := Lib.hid hY
  clear hc ht hY
  gi_wp2_with fail
  refine ⟨trivial, (callsIn_wide.2 (Size_calls _ hs.1 hs.2 _)).mono ?_⟩
  rintro e w' ⟨rfl, rfl⟩
  gi_wp2_with fail
  gi_loopw [4, 12] (fun z i wr => ∃ j : Nat, j ≤ ar (nth t k) ∧ i = .int .i64 j ∧ (∃ zz, z = .int .i64 zz ∧ Hid (j < ar (nth t k) → zz = (psN t k j : Nat))) ∧ Hid (J ((psT t k).take j) wr ∧ Keeps M W wr))
    (fun _ i _ => ar (nth t k) - (intOf i).toNat)
  case atStart => exact ⟨0, by omega, rfl, ⟨_, rfl, fun _ => by simp [psN]⟩, by simpa using h0, .refl _ _⟩
  case round =>
    obtain ⟨j, hj, rfl, ⟨zz, rfl, hz⟩, hR⟩ := hrel
    by_cases hlt' : j < ar (nth t k)
    · obtain rfl := hz.out hlt'
      clear hz
      obtain ⟨fn, tmps, assign, body, hy, hRd⟩ := hYh.out _ (psN t k j) wr hR.out.1 (by rw [psT_len, List.length_take, psT_len]; omega)
      have hji : (j : Int) < ar (nth t k) := by omega
      gi_wp2_with fail
      refine hRd.mono ?_
      rintro e W3 (⟨rfl, hJ3, hk3⟩ | ⟨rfl, hJx3⟩)
      · have hB3 := Lib.hid (hR.out.2.trans hk3)
        have hBt3 : W3.cell? ⟨Bt, 0, none⟩ = some (.slice (some ⟨b, o, none⟩) t.length c) := (World.cell?_of_block (w := W) (hB3.out.block Bt hlt hMt)).trans hBt
        have hv3 : IsInts Any W3 (.slice (some ⟨b, o, none⟩) t.length c) t := hv0.out.mono ⟨hB3.out.size, fun i hi hl => ⟨trivial, hB3.out.block i hl hi⟩⟩
        have hSk := Lib.hid (Skip_calls t hsm.out _ W3 hv3 t.length (psN t k j : Nat) (by omega))
        have hJ4 := Lib.hid hJ3
        clear hv3 hk3 hJ3
        gi_wp2_with fail
        refine ⟨trivial, (callsIn_wide.2 hSk.out).mono ?_⟩
        rintro e w' ⟨rfl, rfl⟩
        gi_wp2_with fail
        go_roundw
        case rel =>
          refine ⟨j + 1, by omega, by go_num, ⟨_, rfl, fun hj2 => ?_⟩, by rw [← psT_take hlt']; exact hJ4.out, hB3.out⟩
          have e : j = 0 := by omega
          subst e
          have h1 := (hp.out 0 hlt').1
          have h2 : psN t k 0 = k + 1 := rfl
          rw [h2] at h1 ⊢
          exact (part_at hT.out h1).1
        case measure => simp [intOf]; omega
      · gi_wp2_with fail
        refine bodyPost_ret (results_none rfl _ _ _) rfl ?_
        refine ⟨⟨_, rfl⟩, .inr ⟨_, ?_, hJx3⟩⟩
        rw [psT_take hlt']
        exact List.take_prefix _ _
    · obtain rfl : j = ar (nth t k) := by omega
      gi_wp2_with fail
      go_end0
      exact ⟨⟨_, rfl⟩, .inl ⟨_, by rw [← psT_len, List.take_length], hR.out.1⟩⟩

/-- What Parts hands back: all places, or some of them, where a round has said 'no more'. -/
theorem Parts_stops (n : Nat) (hn : 1 ≤ n) (Bk Bt : Nat) (M : Blk) (t : List Int) (ht : chk t = 0) (k : Nat) (hk : k < t.length) (v : Value) (w : World) (hBk : w.cell? ⟨Bk, 0, none⟩ = some (.int .i64 k)) (hBt : w.cell? ⟨Bt, 0, none⟩ = some v)
    (hlk : Bk < w.heap.size) (hlt : Bt < w.heap.size) (hMt : ¬ M Bt) (hv : IsInts (fun b => ¬ M b) w v t) :
    SeqStopsK Fence.wide n Try.prog 172 #[.pointer (some ⟨Bk, 0, none⟩), .pointer (some ⟨Bt, 0, none⟩)] (fun x : Nat => #[Value.int .i64 (x : Nat)]) (Keeps M) (fun ys => ys = psT t k) (fun pre => pre <+: psT t k) (psT t k).length w :=
  fun l J Jx W hW _ _ hY h0 => Parts1_in n hn l Bk Bt M t ht k hk v J Jx hY W ((hW.cell (p := ⟨Bk, 0, none⟩) hlk).trans hBk) ((hW.cell (p := ⟨Bt, 0, none⟩) hlt).trans hBt) (Nat.lt_of_lt_of_le hlt hW.size) hMt
    (hv.mono ⟨hW.size, fun b hb hl => ⟨hb, hW.block b hl⟩⟩) h0
theorem keepsK_b {M : Blk} {w : World} (hM : ∀ l, w.heap.size ≤ l → M l) (W : World) (l : Nat) (o o' : Obj) (hl : w.heap.size ≤ l) (_ : W.heap[l]? = some o) (_ : o.isCells = false) (_ : o.isWalk = false) : Keeps M W (W.putObj l o') :=
  ⟨rfl, rfl, rfl, (grownBy_putObj' W l o').size, fun k hk hm => (grownBy_putObj' W l o').block k hk fun e => hm (by cases e; exact hM _ hl)⟩

theorem Parts_calls (v : Value) (k : Int) (w : World) (hv : v.oneCell' = true) :
    Calls Try.prog 114 #[v, .int .i64 k] w fun e w' => e = .returned (.func (.func 172) #[] #[.pointer (some ⟨w.heap.size + 1, 0, none⟩), .pointer (some ⟨w.heap.size, 0, none⟩)]) ∧ w' = (w.alloc (.cells #[v] 24)).alloc (.cells #[.int .i64 k] 3) := by
  go_enter Try.func114, Try.ntmps114
  go_wp2_with fail
  go_ret
  exact ⟨rfl, rfl⟩

end Go.Proofs.Ytepddehodmljeaa

namespace Go.Proofs.Ytepddehodmljeaa
open Go.RowKit Go.Maps Go.Shelf
attribute [local go_sem] Oper.semAt_some

/-- The end, some parts passed. -/
def endA (t : List Int) (k : Nat) (pre : List Nat) : Int := match pre.getLast? with | none => k + 1 | some x => skp t (x : Nat)
theorem endA_snoc (t : List Int) (k : Nat) (pre : List Nat) (x : Nat) : endA t k (pre ++ [x]) = skp t (x : Nat) := by simp [endA]
theorem endA_all {t : List Int} (h : chk t = 0) {k : Nat} (hk : k < t.length) : endA t k (psT t k) = (enT t k : Nat) := by
  obtain ⟨hx, hf⟩ := tm_chk h
  generalize tmOf t = x at *
  subst hf
  rw [size_flat] at hk
  have hy := sub_ok hx hk
  have h1 := sub_size hk
  have e := sub_sg hk
  have he := (tm_at hx hk).2.1
  cases hs : x.sub k with
  | leaf s =>
    rw [hs] at e hy he
    have e0 : ar (nth x.flat k) = 0 := by rw [e]; exact hy
    rw [psT, if_pos e0, he]
    simp [endA, Tm.size]
  | un s a =>
    rw [hs] at e hy he h1
    have e0 : ar (nth x.flat k) = 1 := by rw [e]; exact hy.1
    have h2 := size_pos a
    simp only [Tm.size] at h1
    have h3 : x.sub (k + 1) = a := by
      rw [sub_sub x k 1 hk (by rw [hs]; simp [Tm.size]; omega), hs]
      show a.sub 0 = _
      rw [sub_zero]
    rw [psT, if_neg (by omega), if_pos e0]
    have h4 := (tm_at hx (k := k + 1) (by omega)).1
    rw [show endA x.flat k [k + 1] = skp x.flat ((k + 1 : Nat) : Int) from rfl, h4, he, h3]
    simp [Tm.size]; omega
  | bin s a b =>
    rw [hs] at e hy he h1
    have e0 : ar (nth x.flat k) = 2 := by rw [e]; exact hy.1
    have h2 := size_pos a
    have h2' := size_pos b
    simp only [Tm.size] at h1
    have h3 : x.sub (k + 1) = a := by
      rw [sub_sub x k 1 hk (by rw [hs]; simp [Tm.size]; omega), hs]
      show (if 0 < a.size then a.sub 0 else _) = _
      rw [if_pos h2, sub_zero]
    have h5 : x.sub (k + (a.size + 1)) = b := by
      rw [sub_sub x k (a.size + 1) hk (by rw [hs]; simp [Tm.size]; omega), hs]
      show (if a.size < a.size then _ else b.sub (a.size - a.size)) = _
      rw [if_neg (Nat.lt_irrefl _), Nat.sub_self, sub_zero]
    rw [psT, if_neg (by omega), if_neg (by omega)]
    have h4 := (tm_at hx (k := k + 1) (by omega)).2.1
    rw [h3] at h4
    have h6 := (tm_at hx (k := k + (a.size + 1)) (by omega)).1
    rw [show endA x.flat k [k + 1, enT x.flat (k + 1)] = skp x.flat ((enT x.flat (k + 1) : Nat) : Int) from rfl, h4, show k + 1 + a.size = k + (a.size + 1) by omega, h6, h5, he]
    simp [Tm.size]; omega

set_option maxRecDepth 100000 in
set_option maxHeartbeats 2000000 in
theorem End_ok (t : List Int) (v : Value) (k : Nat) (w : World) (hv : IsInts Any w v t) (h : plc t k = 0) :
    Calls Try.prog 51 #[v, .int .i64 k] w fun e w' => e = .returned (.tuple #[.int .i64 (enT t k : Nat), .int .i64 0]) ∧ Below w.heap.size w w' := by
  obtain ⟨ht, -, hk0⟩ := plc_zero h
  have hk : k < t.length := by omega
  have hk' : (k : Int) ≤ 30 := by have := len_of_chk ht; omega
  have hv0 := Lib.hid hv
  obtain ⟨va, vc, rfl⟩ := hv.isSlice
  have h1 := Lib.hid (placed_calls t _ k (w.alloc (.cells #[.slice va t.length vc] 24)) (hv.below (below_alloc _ _)))
  rw [h] at h1
  have hE := Lib.hid (endA_all ht hk)
  have hsm := Lib.hid (small_of_signs (signs_of_chk ht))
  have hT := Lib.hid (And.intro ht hk)
  clear hv ht hk h hk0
  refine (callsIn_wide (n := 5)).1 ?_
  refine callsIn_of_wp_marks Try.func51 rfl trivial ?_ rfl
  simp only [Try.ntmps51, List.size_toArray, List.length_cons, List.length_nil, Nat.reduceAdd, Nat.reduceSub, Array.replicate_succ, Array.replicate_zero, List.push_toArray, List.append_toArray, List.nil_append, List.cons_append]
  gi_wp2_with fail
  refine ⟨trivial, (callsIn_wide.2 h1.out).mono ?_⟩
  rintro e w' ⟨rfl, rfl⟩
  gi_wp2_with fail
  refine ⟨trivial, (callsIn_wide.2 (Parts_calls (.slice va t.length vc) k _ rfl)).mono ?_⟩
  rintro e w' ⟨rfl, rfl⟩
  gi_wp2_with fail
  obtain ⟨W0, hW0⟩ : ∃ W0, W0 = (((w.alloc (.cells #[.slice va t.length vc] 24)).alloc (.cells #[.int .i64 ((k : Int) + 1)] 3)).alloc (.cells #[.slice va t.length vc] 24)).alloc (.cells #[.int .i64 k] 3) := ⟨_, rfl⟩
  rw [← hW0]
  have hz : W0.heap.size = w.heap.size + 4 := by rw [hW0]; simp
  have hB0 : Below w.heap.size w W0 := by
    rw [hW0]; exact ext_alloc (ext_alloc (ext_alloc (below_alloc _ _) _) _) _
  have c0 : W0.cell? ⟨w.heap.size, 0, none⟩ = some (.slice va t.length vc) := by rw [hW0]; simp [go_sem]
  have c1 : W0.cell? ⟨w.heap.size + 1, 0, none⟩ = some (.int .i64 ((k : Int) + 1)) := by rw [hW0]; simp [go_sem]
  have c2 : W0.cell? ⟨w.heap.size + 1 + 1, 0, none⟩ = some (.slice va t.length vc) := by rw [hW0]; simp [go_sem]
  have c3 : W0.cell? ⟨w.heap.size + 1 + 1 + 1, 0, none⟩ = some (.int .i64 k) := by rw [hW0]; simp [go_sem]
  have f1 : W0.frozen? ⟨w.heap.size + 1, 0, none⟩ = false := by rw [hW0]; simp [go_sem]
  clear hW0
  refine wpIn_rangeFunc_ownG rfl (by omega) (gf := 172) (lb := #[.pointer (some ⟨w.heap.size + 1 + 1 + 1, 0, none⟩), .pointer (some ⟨w.heap.size + 1 + 1, 0, none⟩)]) rfl trivial (enters_of Try.func172 (by kernel_rfl) rfl)
    (Parts_stops _ (by omega) (w.heap.size + 1 + 1 + 1) (w.heap.size + 1 + 1) (fun i => i = w.heap.size + 1 ∨ w.heap.size + 4 ≤ i) t hT.out.1 k hT.out.2 _ W0 c3 c2 (by omega) (by omega) (by omega) (hv0.out.mono ⟨hB0.size, fun b _ hb => ⟨by omega, hB0.block b hb⟩⟩)) Keeps.trans (keepsK_b (by intro l hl; right; omega)) (Below.refl _ _) (fun _ => rfl)
    (fun pre W => (W.cell? ⟨w.heap.size, 0, none⟩ = some (.slice va t.length vc) ∧ W.cell? ⟨w.heap.size + 1, 0, none⟩ = some (.int .i64 (endA t k pre)) ∧ W.frozen? ⟨w.heap.size + 1, 0, none⟩ = false) ∧ Below w.heap.size w W)
    (fun _ _ _ => False)
    (OwnFrom.and (Own.from (fun s A B row hs hg hr => ⟨cell_kept hs.1 hg hr, cell_kept hs.2.1 hg hr, (frozen_kept hs.2.1 hg hr).trans hs.2.2⟩) _) (ownFrom_below (Nat.le_refl _) (by omega)))
    (fun _ _ _ _ _ hs _ _ => hs)
    ⟨⟨c0, c1, f1⟩, hB0⟩
    (fun x => { tmps := #[.slice va t.length vc, .int .i64 k, .pointer (some ⟨w.heap.size, 0, none⟩),
          undef, .int .i64 0, .int .i64 0, .int .i64 0,
          .pointer (some ⟨w.heap.size + 1, 0, none⟩), .int .i64 x, .slice va t.length vc,
          .int .i64 k, .int .i64 0, .int .i64 0, .bool false, undef,
          .int .i64 k, .int .i64 ((k : Int) + 1), .slice va t.length vc,
          .int .i64 k,
          .func (.func 172) #[] #[.pointer (some ⟨w.heap.size + 1 + 1 + 1, 0, none⟩), .pointer (some ⟨w.heap.size + 1 + 1, 0, none⟩)],
          .int .i64 x, undef, undef, undef, undef], defers := [] }) ?assign ?body ?done ?stop
  case assign =>
    intro l x W K hK
    gi_wp2
    exact hK
  case body =>
    rintro l pre x W ⟨⟨hc, he, hf⟩, hB⟩ hlt
    have hvW : IsInts Any W (.slice va t.length vc) t := hv0.out.mono (.of_below hB)
    have hSk := Lib.hid (Skip_calls t hsm.out _ W hvW t.length (x : Nat) (by omega))
    have hbl : w.heap.size + 1 < W.heap.size := World.block_lt_of_cell? _ _ he
    clear hvW
    gi_wp2_with fail
    refine ⟨trivial, (CallsIn.inRound l (callsIn_wide.2 hSk.out)).mono ?_⟩
    rintro e w' ⟨rfl, rfl⟩
    gi_wp2_with fail
    refine ⟨(KeepsOthers.setCell _ _ _).from _, ⟨rfl, rfl, rfl, (grownBy_setCell' _ _ _).size, fun i hi hm => Below.heap_setCell _ _ _ _ fun e => hm (.inl e)⟩, ⟨?_, ?_, ?_⟩, hB.setCell (by simp) _⟩
    · exact (World.cell?_of_block (w := W) (Below.heap_setCell _ _ _ _ (by simp))).trans hc
    · rw [endA_snoc]; exact World.cell?_setCell_same' _ _ _ (by rw [he]; rfl)
    · rw [World.frozen?_setCell]; exact hf
  case done =>
    rintro D ys W hD rfl ⟨⟨hc, he, hf⟩, hB⟩ hK
    rw [hE.out] at he
    gi_wp2_with fail
    refine ⟨by simp, .inl ⟨_, _, rfl, run_takeDeferred hK, ?_⟩⟩
    exact ⟨_, results_tmp2 rfl _ _ _, rfl, hB.trans (belowK_b (w := W0) (by omega) W D _ _ hD hK rfl rfl)⟩
  case stop =>
    rintro D c pre W _ _ h _
    exact h.elim

/-- What End answers. -/
def endN (t : List Int) (k : Int) : Int := if plc t k = 0 then (enT t k.toNat : Nat) else 0

theorem End_calls (t : List Int) (v : Value) (k : Int) (w : World) (hv : IsInts Any w v t) :
    Calls Try.prog 51 #[v, .int .i64 k] w fun e w' => e = .returned (.tuple #[.int .i64 (endN t k), .int .i64 (plc t k)]) ∧ Below w.heap.size w w' := by
  by_cases h : plc t k = 0
  · obtain ⟨h2, h3, h4⟩ := plc_zero h
    obtain ⟨n, rfl⟩ : ∃ n : Nat, k = n := ⟨k.toNat, by omega⟩
    refine (End_ok t v n w hv h).mono fun e w' h5 => ⟨?_, h5.2⟩
    rw [h5.1, endN, if_pos h, h]; rfl
  · have hr : Hid (endN t k = 0) := by rw [Hid, endN, if_neg h]
    have h' : (plc t k != 0) = true := by simpa using h
    obtain ⟨va, vc, rfl⟩ := hv.isSlice
    have h1 := Lib.hid (placed_calls t _ k (w.alloc (.cells #[.slice va t.length vc] 24)) (hv.below (below_alloc _ _)))
    clear hv h
    go_enter Try.func51, Try.ntmps51
    go_wp2_with fail
    refine h1.out.mono ?_
    rintro e w' ⟨rfl, rfl⟩
    clear h1
    go_wp2_with fail
    go_ret2
    exact ⟨by rw [hr.out]; rfl, below_alloc _ _⟩

end Go.Proofs.Ytepddehodmljeaa

namespace Go.Proofs.Ytepddehodmljeaa
open Go.RowKit Go.Maps

/-- The first j signs, with the capacity that is left. -/
theorem ints_cut {w : World} {b o c i j : Nat} {t : List Int} (h : IsInts Any w (.slice (some ⟨b, o, none⟩) t.length c) t) (hij : i ≤ j) (hj : j ≤ t.length) : IsInts Any w (.slice (some ⟨b, o + i, none⟩) (j - i) (c - i)) ((t.drop i).take (j - i)) := by
  have hc := h
  obtain ⟨-, ⟨rfl, -⟩ | ⟨-, b', o', c', e, hcap, -⟩⟩ := hc
  · simp at hj
    subst hj
    obtain rfl : i = 0 := by omega
    exact ⟨by simp, .inl ⟨by simp, some ⟨b, o, none⟩, c, by simp, by simp⟩⟩
  cases e
  have h2 := ints_drop (k := i) (c2 := c - i) h (by omega) (by omega)
  rw [← List.length_drop] at h2
  exact ints_take h2 (by simp; omega)

theorem endOf_calls (t : List Int) (ht : chk t = 0) (v : Value) (k : Nat) (hk : k < t.length) (w : World) (hv : IsInts Any w v t) :
    Calls Try.prog 119 #[v, .int .i64 k] w fun e w' => e = .returned (.int .i64 (enT t k : Nat)) ∧ Below w.heap.size w w' := by
  obtain ⟨hx, hf⟩ := tm_chk ht
  have hl := len_of_chk ht
  obtain ⟨-, ⟨rfl, -⟩ | ⟨-, b, o, c, rfl, hcap, -, hbl, hc⟩⟩ := id hv
  · simp at hk
  have hd := ints_drop (k := k) (c2 := c - k) hv (by omega) (by omega)
  obtain ⟨r, hr1, hr2, hso⟩ : ∃ r, t.drop k = ((tmOf t).sub k).flat ++ r ∧ (enT t k = t.length - r.length ∧ r.length ≤ t.length) ∧ ((tmOf t).sub k).ok := by
    have hks : k < (tmOf t).size := by rw [← size_flat, hf]; exact hk
    obtain ⟨pre, r, h1, h2, -, h4, -⟩ := sub_split (tmOf t) k hks
    have e1 := (tm_at hx hks).2.1
    rw [hf] at h2 e1
    have e2 := congrArg List.length h2
    simp only [List.length_append, size_flat] at e2
    refine ⟨r, ?_, ⟨by omega, by omega⟩, h4 hx⟩
    have e3 : (pre ++ (((tmOf t).sub k).flat ++ r)).drop k = ((tmOf t).sub k).flat ++ r := List.drop_left' h1
    rw [← h2] at e3
    exact e3
  rw [hr1] at hd
  have hG := Lib.hid (grown_calls _ r hso Any _ w hd)
  have hE := Lib.hid hr2
  have h1 : (k : Int) < c := by omega
  have h2 : k < c := by omega
  have h3 : (k : Int) < t.length := by omega
  clear hv hc hd hr1 hso hr2 hx hf ht
  go_enter Try.func119, Try.ntmps119
  go_wp2_with fail
  refine hG.out.mono ?_
  rintro e w1 ⟨p, q, rfl, -, hq, hB⟩
  obtain ⟨qa, qc, rfl⟩ := hq.isSlice
  have hle := hE.out.2
  clear hq
  go_wp2_with fail
  go_ret
  exact ⟨ret_int (by rw [hE.out.1]; omega), hB⟩

theorem empty_own (w : World) : (w.alloc (.cells #[] 3)).ownsRow w.heap.size 3 1 (.slice (some ⟨w.heap.size, 0, none⟩) 0 0) ([] : List Int).length (([] : List Int).map (Value.int .i64)) := lit_own w w.heap.size [] 3 (Nat.le_refl _) (by simp)

set_option maxRecDepth 100000 in
theorem partOf_calls (t : List Int) (ht : chk t = 0) (v : Value) (k : Nat) (hk : k < t.length) (w : World) (hv : IsInts Any w v t) :
    Calls Try.prog 112 #[v, .int .i64 k] w fun e w' => ∃ x, e = .returned x ∧ IsInts (Fr w.heap.size) w' x (paT t k) ∧ Below w.heap.size w w' := by
  obtain ⟨i3, hi, hz, hsz, hby⟩ := info_parts Try.inf3
  have hp := part_at ht hk
  have hpl := paT_len ht hk
  have hl := len_of_chk ht
  have hE := Lib.hid (endOf_calls t ht v k hk (w.alloc (.cells #[] 3)) (hv.below (below_alloc _ _)))
  obtain ⟨-, ⟨rfl, -⟩ | ⟨-, b, o, c, rfl, hcap, -, hbl, hc⟩⟩ := id hv
  · simp at hk
  have hX := Lib.hid fun W (hb : Below w.heap.size w W) => ints_cut (i := k) (j := enT t k) (hv.below hb) (by omega) hp.2.2.1
  have h1 : (k : Int) ≤ enT t k := by omega
  have h2 : ((enT t k : Nat) : Int) ≤ c := by omega
  have h3 : enT t k ≤ c := by omega
  have h4 : k ≤ enT t k := by omega
  have h5 : (k : Int) < c := by omega
  have h6 : k < c := by omega
  have hO := Lib.hid (empty_own w)
  have hPl : Hid ((paT t k).length ≤ 30) := by rw [Hid, hpl]; omega
  have hfold : Hid ((t.drop k).take (enT t k - k) = paT t k) := rfl
  generalize enT t k = n at *
  clear hv hc hp hpl ht
  go_enter Try.func112, Try.ntmps112
  go_wp2_with fail
  refine hE.out.mono ?_
  rintro e w1 ⟨rfl, hB⟩
  have hB1 := Lib.hid (ext_trans (below_alloc w _) hB)
  have hO1 := Lib.hid (ownsRow_keep hO.out fun j hj => hB.block j (hO.out.lt j hj).2)
  have hx := hX.out _ hB1.out
  rw [hfold.out] at hx
  have hX1 := Lib.hid hx
  have hz1 := hB1.out.size
  clear hx hB hX hE hO
  go_wp2_with (at_builtin; refine app_ints _ _ 24 rfl rfl w.heap.size i3 Try.underlying24 hi hz hsz hby hO1.out hX1.out ?c1 ?c2 ?c3; rotate_left 2; intro v' w2 hown2 hb2 hg2 _; rw [List.nil_append] at hown2)
  case c1 => have := hPl.out; simp; omega
  case c2 => exact hz1
  go_ret
  exact ⟨_, rfl, ints_of_own hown2 (by have := hPl.out; omega), hB1.out.trans hb2⟩

set_option maxRecDepth 100000 in
set_option maxHeartbeats 1000000 in
theorem put_calls (t u : List Int) (ht : chk t = 0) (hul : u.length ≤ 1000) (v x : Value) (k : Nat) (hk : k < t.length) (w : World) (hv : IsInts Any w v t) (hx : IsInts Any w x u) :
    Calls Try.prog 125 #[v, .int .i64 k, x] w fun e w' => ∃ y, e = .returned y ∧ IsInts (Fr w.heap.size) w' y (puT t k u) ∧ Below w.heap.size w w' := by
  obtain ⟨i3, hi, hz, hsz, hby⟩ := info_parts Try.inf3
  have hp := part_at ht hk
  have hl := len_of_chk ht
  have hE := Lib.hid fun W (hb : Below w.heap.size w W) => endOf_calls t ht v k hk W (hv.below hb)
  obtain ⟨xa, xc, rfl⟩ := hx.isSlice
  obtain ⟨-, ⟨rfl, -⟩ | ⟨-, b, o, c, rfl, hcap, -, hbl, hc⟩⟩ := id hv
  · simp at hk
  have hA := Lib.hid (ints_take hv (k := k) (by omega))
  have hN : Hid (enT t k = c → IsInts Any w (.slice (some ⟨b, o, none⟩) 0 0) (t.drop (enT t k))) := fun h => by
    have h1 := hp.2.2.1
    have h2 : t.drop (enT t k) = [] := List.drop_of_length_le (by omega)
    rw [h2]; exact ⟨by simp, .inl ⟨rfl, _, 0, rfl, by simp⟩⟩
  have hD := Lib.hid (ints_drop hv (k := enT t k) (c2 := c - enT t k) (by omega) (by omega))
  have hX := Lib.hid hx
  have hfin : Hid (t.take k ++ (u ++ t.drop (enT t k)) = puT t k u) := rfl
  have hl1 : Hid ((t.take k).length ≤ 30 ∧ (t.drop (enT t k)).length ≤ 30) := by rw [Hid]; simp; omega
  have g2 : (k : Int) ≤ c := by omega
  have g3 : k ≤ c := by omega
  have g4 : ((enT t k : Nat) : Int) ≤ t.length := by omega
  have g5 : enT t k ≤ c := by omega
  have hO := Lib.hid (empty_own w)
  generalize hpu : puT t k u = z at *
  generalize t.drop (enT t k) = td at *
  generalize t.take k = tk at *
  generalize enT t k = n at *
  clear hp hv hx ht hc hpu
  go_enter Try.func125, Try.ntmps125
  have tok1 : True := trivial
  have tok2 : True := trivial
  go_wp2_with (first
    | (at_builtin; have _t := tok1; refine app_ints _ _ 24 rfl rfl w.heap.size i3 Try.underlying24 hi hz hsz hby hO.out (hA.out.below (below_alloc w _)) ?c1 ?c2 ?c3; rotate_left 2; intro v1 w1 hown1 hb1 hg1 _; clear tok1)
    | (at_builtin; have _t := tok2; refine app_ints _ _ 24 rfl rfl w.heap.size i3 Try.underlying24 hi hz hsz hby hown1 (hX.out.below ((below_alloc w _).trans hb1)) ?d1 ?d2 ?d3; rotate_left 2; intro v2 w2 hown2 hb2 hg2 _; clear tok2)
    | fail)
  case c1 => have := hl1.out.1; simp; omega
  case c2 => simp
  case d1 => have := hl1.out.1; simp; omega
  case d2 => have := hb1.size; simp at this; omega
  have hB2 := Lib.hid (((below_alloc w _).trans hb1).trans hb2)
  rw [List.nil_append] at hown2
  have hO2 := Lib.hid hown2
  clear hown1 hown2 hO hA hX hb1 hg1 hb2 hg2
  refine (hE.out w2 hB2.out).mono ?_
  rintro e w3 ⟨rfl, hB⟩
  have hB3 := Lib.hid (ext_trans hB2.out hB)
  have hO3 := Lib.hid (ownsRow_keep hO2.out fun j hj => hB.block j (hO2.out.lt j hj).2)
  have hz3 := hB3.out.size
  have hlen3 : Hid ((tk ++ u).length + td.length ≤ 1000000) := by have := hl1.out; rw [Hid, List.length_append]; omega
  clear hB hE hO2 hB2
  by_cases hnc : n = c
  · have hM := Lib.hid ((hN.out hnc).below hB3.out)
    clear hN hD
    subst hnc
    go_wp2_with (at_builtin; refine app_ints _ _ 24 rfl rfl w.heap.size i3 Try.underlying24 hi hz hsz hby hO3.out hM.out hlen3.out hz3 ?_; intro v4 w4 hown4 hb4 hg4 _)
    go_ret
    refine ⟨_, rfl, ?_, hB3.out.trans hb4⟩
    rw [← hfin.out, ← List.append_assoc]
    exact ints_of_own hown4 (by have := hlen3.out; rw [List.length_append]; omega)
  · have hM := Lib.hid (hD.out.below hB3.out)
    have g6 : n < c := by omega
    have g7 : (n : Int) < c := by omega
    clear hN hD hnc
    go_wp2_with (at_builtin; refine app_ints _ _ 24 rfl rfl w.heap.size i3 Try.underlying24 hi hz hsz hby hO3.out hM.out hlen3.out hz3 ?_; intro v4 w4 hown4 hb4 hg4 _)
    go_ret
    refine ⟨_, rfl, ?_, hB3.out.trans hb4⟩
    rw [← hfin.out, ← List.append_assoc]
    exact ints_of_own hown4 (by have := hlen3.out; rw [List.length_append]; omega)

end Go.Proofs.Ytepddehodmljeaa

namespace Go.Proofs.Ytepddehodmljeaa
open Go.RowKit Go.Maps

theorem EndOf_calls (t : List Int) (v : Value) (k : Int) (w : World) (hv : IsInts Any w v t) :
    Calls Try.prog 53 #[v, .int .i64 k] w fun e w' => e = .returned (.tuple #[.int .i64 (endN t k), .int .i64 (plc t k)]) ∧ Below w.heap.size w w' := by
  have h1 := Lib.hid (PlaceError_calls t v k w hv)
  by_cases h : plc t k = 0
  · obtain ⟨h2, h3, h4⟩ := plc_zero h
    obtain ⟨n, rfl⟩ : ∃ n : Nat, k = n := ⟨k.toNat, by omega⟩
    have hE := Lib.hid (endOf_calls t h2 v n (by omega) w hv)
    have hr : Hid (endN t n = (enT t n : Nat)) := by rw [Hid, endN, if_pos h]; rfl
    have hh := Lib.hid h
    clear hv h h2 h3 h4
    go_enter Try.func53, Try.ntmps53
    go_wp2_with fail
    refine h1.out.mono ?_
    rintro e w' ⟨rfl, rfl⟩
    rw [hh.out]
    go_wp2_with fail
    refine hE.out.mono ?_
    rintro e w1 ⟨rfl, hB⟩
    go_wp2_with fail
    go_ret2
    exact ⟨by rw [hr.out, hh.out]; rfl, hB⟩
  · have hr : Hid (endN t k = 0) := by rw [Hid, endN, if_neg h]
    have h' : (plc t k != 0) = true := by simpa using h
    clear hv h
    go_enter Try.func53, Try.ntmps53
    go_wp2_with fail
    refine h1.out.mono ?_
    rintro e w' ⟨rfl, rfl⟩
    clear h1
    go_wp2_with fail
    go_ret2
    exact ⟨by rw [hr.out]; rfl, .refl _ _⟩

theorem PartOf_calls (t : List Int) (v : Value) (k : Int) (w : World) (hv : IsInts Any w v t) :
    Calls Try.prog 54 #[v, .int .i64 k] w fun e w' => ∃ x, e = .returned (.tuple #[x, .int .i64 (plc t k)]) ∧ IsInts (Fr w.heap.size) w' x (partT t k) ∧ Below w.heap.size w w' := by
  have h1 := Lib.hid (PlaceError_calls t v k w hv)
  by_cases h : plc t k = 0
  · obtain ⟨h2, h3, h4⟩ := plc_zero h
    obtain ⟨n, rfl⟩ : ∃ n : Nat, k = n := ⟨k.toNat, by omega⟩
    have hE := Lib.hid (partOf_calls t h2 v n (by omega) w hv)
    have hr : Hid (partT t n = paT t n) := by rw [Hid, partT, if_pos h]; rfl
    have hh := Lib.hid h
    clear hv h h2 h3 h4
    go_enter Try.func54, Try.ntmps54
    go_wp2_with fail
    refine h1.out.mono ?_
    rintro e w' ⟨rfl, rfl⟩
    rw [hh.out]
    go_wp2_with fail
    refine hE.out.mono ?_
    rintro e w1 ⟨x, rfl, hx, hB⟩
    go_wp2_with fail
    go_ret2
    exact ⟨x, by rw [hh.out]; rfl, by rw [hr.out]; exact hx, hB⟩
  · have hr : Hid (partT t k = []) := by rw [Hid, partT, if_neg h]
    have h' : (plc t k != 0) = true := by simpa using h
    clear hv h
    go_enter Try.func54, Try.ntmps54
    go_wp2_with fail
    refine h1.out.mono ?_
    rintro e w' ⟨rfl, rfl⟩
    clear h1
    go_wp2_with fail
    go_ret2
    exact ⟨_, rfl, by rw [hr.out]; exact .nil _ _, .refl _ _⟩

theorem putE_t {t u : List Int} {k : Int} (h : chk t ≠ 0) : putE t k u = chk t ∧ putT t k u = [] := by
  have h1 : chk2 t u = chk t := by rw [chk2, if_neg h]
  have h2 : putE t k u = chk t := by rw [putE, h1, if_pos h]
  exact ⟨h2, by rw [putT, h2, if_neg h]⟩
theorem putE_u {t u : List Int} {k : Int} (ht : chk t = 0) (h : chk u ≠ 0) : putE t k u = chk u ∧ putT t k u = [] := by
  have h1 : chk2 t u = chk u := by rw [chk2, if_pos ht]
  have h2 : putE t k u = chk u := by rw [putE, h1, if_pos h]
  exact ⟨h2, by rw [putT, h2, if_neg h]⟩
theorem putE_k {t u : List Int} {k : Int} (ht : chk t = 0) (hu : chk u = 0) (h : ¬ (0 ≤ k ∧ k < t.length)) : putE t k u = 3 ∧ putT t k u = [] := by
  have h1 : chk2 t u = 0 := by rw [chk2, if_pos ht, hu]
  have h3 : plc t k = 3 := by rw [plc, if_pos ht, if_neg h]
  have h2 : putE t k u = 3 := by rw [putE, h1, h3]; simp
  exact ⟨h2, by rw [putT, h2]; simp⟩
theorem putE_big {t u : List Int} {k : Nat} (ht : chk t = 0) (hu : chk u = 0) (h : k < t.length) (hb : 30 < (puT t k u).length) : putE t k u = 2 ∧ putT t k u = [] := by
  have h1 : chk2 t u = 0 := by rw [chk2, if_pos ht, hu]
  have h3 : plc t k = 0 := by rw [plc, if_pos ht, if_pos (by omega)]
  have h2 : putE t k u = 2 := by rw [putE, h1, h3, Int.toNat_natCast, if_pos hb]; simp
  exact ⟨h2, by rw [putT, h2]; simp⟩
theorem putE_ok {t u : List Int} {k : Nat} (ht : chk t = 0) (hu : chk u = 0) (h : k < t.length) (hb : (puT t k u).length ≤ 30) : putE t k u = 0 ∧ putT t k u = puT t k u := by
  have h1 : chk2 t u = 0 := by rw [chk2, if_pos ht, hu]
  have h3 : plc t k = 0 := by rw [plc, if_pos ht, if_pos (by omega)]
  have h2 : putE t k u = 0 := by rw [putE, h1, h3, Int.toNat_natCast]; simp; exact hb
  exact ⟨h2, by rw [putT, h2, if_pos rfl, Int.toNat_natCast]⟩

set_option maxRecDepth 100000 in
theorem PutOf_calls (t u : List Int) (v x : Value) (k : Int) (w : World) (hv : IsInts Any w v t) (hx : IsInts Any w x u) :
    Calls Try.prog 59 #[v, .int .i64 k, x] w fun e w' => ∃ y, e = .returned (.tuple #[y, .int .i64 (putE t k u)]) ∧ IsInts (Fr w.heap.size) w' y (putT t k u) ∧ Below w.heap.size w w' := by
  have h1 := Lib.hid (TermError_calls t v w hv)
  have h2 := Lib.hid (TermError_calls u x w hx)
  by_cases ht : chk t = 0
  · by_cases hu : chk u = 0
    · have hln := len_of_chk ht
      have hlu := len_of_chk hu
      cases hb : (decide (0 ≤ k) && decide (k ≤ (t.length : Int) - 1))
      · have hr := Lib.hid (putE_k (k := k) ht hu (by simp at hb; omega))
        have hW := within_calls k 0 ((t.length : Int) - 1) w
        rw [hb] at hW
        have HW := Lib.hid hW
        have hh := Lib.hid (And.intro ht hu)
        obtain ⟨va, vc, rfl⟩ := hv.isSlice
        clear hW hb ht hu hv hx
        go_enter Try.func59, Try.ntmps59
        go_wp2_with fail
        refine h1.out.mono ?_
        rintro e w' ⟨rfl, rfl⟩
        rw [hh.out.1]
        go_wp2_with fail
        refine h2.out.mono ?_
        rintro e w' ⟨rfl, rfl⟩
        rw [hh.out.2]
        go_wp2_with (go_at_call 122; refine HW.out.mono ?_; rintro e w' ⟨rfl, rfl⟩)
        go_ret2
        exact ⟨.slice none 0 0, by rw [hr.out.1]; rfl, by rw [hr.out.2]; exact .nil _ _, .refl _ _⟩
      · have hk : 0 ≤ k ∧ k < t.length := by simp at hb; omega
        obtain ⟨n, rfl⟩ : ∃ n : Nat, k = n := ⟨k.toNat, by omega⟩
        have hW := within_calls n 0 ((t.length : Int) - 1) w
        rw [hb] at hW
        have HW := Lib.hid hW
        have hh := Lib.hid (And.intro ht hu)
        have hP := Lib.hid (put_calls t u ht (by omega) v x n (by omega) w hv hx)
        obtain ⟨va, vc, rfl⟩ := hv.isSlice
        by_cases hbig : 30 < (puT t n u).length
        · have hr := Lib.hid (putE_big ht hu (by omega : n < t.length) hbig)
          have hbi : 30 < ((puT t n u).length : Int) := by omega
          clear hW hb ht hu hv hx hk hbig
          go_enter Try.func59, Try.ntmps59
          go_wp2_with fail
          refine h1.out.mono ?_
          rintro e w' ⟨rfl, rfl⟩
          rw [hh.out.1]
          go_wp2_with fail
          refine h2.out.mono ?_
          rintro e w' ⟨rfl, rfl⟩
          rw [hh.out.2]
          go_wp2_with (go_at_call 122; refine HW.out.mono ?_; rintro e w' ⟨rfl, rfl⟩)
          refine hP.out.mono ?_
          rintro e w1 ⟨y, rfl, hy, hB⟩
          obtain ⟨ya, yc, rfl⟩ := hy.isSlice
          go_wp2_with fail
          go_ret2
          exact ⟨.slice none 0 0, by rw [hr.out.1]; rfl, by rw [hr.out.2]; exact .nil _ _, hB⟩
        · have hr := Lib.hid (putE_ok ht hu (by omega : n < t.length) (by omega))
          have hbi : ((puT t n u).length : Int) ≤ 30 := by omega
          clear hW hb ht hu hv hx hk hbig
          go_enter Try.func59, Try.ntmps59
          go_wp2_with fail
          refine h1.out.mono ?_
          rintro e w' ⟨rfl, rfl⟩
          rw [hh.out.1]
          go_wp2_with fail
          refine h2.out.mono ?_
          rintro e w' ⟨rfl, rfl⟩
          rw [hh.out.2]
          go_wp2_with (go_at_call 122; refine HW.out.mono ?_; rintro e w' ⟨rfl, rfl⟩)
          refine hP.out.mono ?_
          rintro e w1 ⟨y, rfl, hy, hB⟩
          obtain ⟨ya, yc, rfl⟩ := hy.isSlice
          have hY := Lib.hid hy
          clear hy
          go_wp2_with fail
          go_ret2
          exact ⟨_, by rw [hr.out.1]; rfl, by rw [hr.out.2]; exact hY.out, hB⟩
    · have hr := Lib.hid (putE_u (k := k) ht hu)
      have h' : (chk u != 0) = true := by simpa using hu
      have hh := Lib.hid ht
      clear hv hx ht hu
      go_enter Try.func59, Try.ntmps59
      go_wp2_with fail
      refine h1.out.mono ?_
      rintro e w' ⟨rfl, rfl⟩
      rw [hh.out]
      go_wp2_with fail
      refine h2.out.mono ?_
      rintro e w' ⟨rfl, rfl⟩
      clear h1 h2
      go_wp2_with fail
      go_ret2
      exact ⟨.slice none 0 0, by rw [hr.out.1]; rfl, by rw [hr.out.2]; exact .nil _ _, .refl _ _⟩
  · have hr := Lib.hid (putE_t (u := u) (k := k) ht)
    have h' : (chk t != 0) = true := by simpa using ht
    clear hv hx ht h2
    go_enter Try.func59, Try.ntmps59
    go_wp2_with fail
    refine h1.out.mono ?_
    rintro e w' ⟨rfl, rfl⟩
    clear h1
    go_wp2_with fail
    go_ret2
    exact ⟨.slice none 0 0, by rw [hr.out.1]; rfl, by rw [hr.out.2]; exact .nil _ _, .refl _ _⟩

end Go.Proofs.Ytepddehodmljeaa

namespace Go.Proofs.Ytepddehodmljeaa
open Go.RowKit Go.Maps

theorem tb : endN fxgaT 2 = 4 ∧ plc fxgaT 2 = 0 ∧ partT fxgaT 2 = [2, 0] ∧ putE fxgaT 1 [3, 1] = 0 ∧ putT fxgaT 1 [3, 1] = [4, 3, 1, 2, 0] ∧ plc fxgaT 4 = 3 ∧ putE (List.replicate 31 0) 0 fxgaT = 2 ∧ chk fxgaT = 0 ∧ chk [4, 0] = 1 ∧ chk [0, 0] = 1 ∧ chk [6] = 3 ∧ chk [] = 1 := by decide +kernel
theorem pure_below {n : FuncId} {args : Array Value} {w : World} {x : Ending} (h : Calls Try.prog n args w fun e w' => e = x ∧ w = w') : Calls Try.prog n args w fun e w' => e = x ∧ Below w.heap.size w w' :=
  h.mono fun _ _ h => ⟨h.1, h.2 ▸ .refl _ _⟩

theorem below_drew (B : Nat) (w : World) : Below B w w.drew := ⟨rfl, rfl, rfl, Nat.le_refl _, fun _ _ => rfl⟩
/-- Thirty-one noughts. -/
def z31 : List Int := List.replicate 31 0
def c31 : Array Value := (z31.map (Value.int .i64)).toArray
theorem mk31 (w : World) : (Instr.makeSlice 24 (.int .i64 31) (.int .i64 31)).run Try.prog w = .ok (.slice (some ⟨w.heap.size, 0, none⟩) 31 31) (w.alloc (.cells c31 3)) := by kernel_rfl

theorem z31_ints (w : World) : IsInts Any (w.alloc (.cells c31 3)) (.slice (some ⟨w.heap.size, 0, none⟩) 31 31) z31 := lit_any w z31 (by decide)

set_option maxRecDepth 100000 in
set_option maxHeartbeats 1000000 in
theorem termBegun_calls (w : World) : Calls Try.prog 55 #[] w fun e w' => e = .returned (.bool true) ∧ Below w.heap.size w w' := by
  go_enter Try.func55, Try.ntmps55
  go_wp2_with fail
  refine (fxga_calls w).mono ?_
  rintro e w1 ⟨f, rfl, hf, hB1⟩
  go_wp2_with fail
  refine (End_calls fxgaT _ 2 w1 hf.any).mono ?_
  rintro e w2 ⟨rfl, hB2⟩
  clear hf
  replace hB1 := ext_trans hB1 hB2
  clear hB2
  rw [tb.1, tb.2.1]
  go_wp2_with fail
  refine (fxga_calls w2).mono ?_
  rintro e w3 ⟨f, rfl, hf, hB3⟩
  replace hB1 := ext_trans hB1 hB3
  clear hB3
  go_wp2_with fail
  refine (Part_calls fxgaT _ 2 w3 hf.any).mono ?_
  rintro e w4 ⟨p, rfl, hp, hB4⟩
  clear hf
  replace hB1 := ext_trans hB1 hB4
  clear hB4
  rw [tb.2.1]
  rw [tb.2.2.1] at hp
  replace hp := hp.any
  obtain ⟨pa, pc, rfl⟩ := hp.isSlice
  go_wp2_with fail
  refine (fxga_calls w4).mono ?_
  rintro e w5 ⟨f, rfl, hf, hB5⟩
  replace hp := hp.below hB5
  replace hB1 := ext_trans hB1 hB5
  clear hB5
  go_wp2_with fail
  refine (Put_calls fxgaT [3, 1] _ _ 1 _ (hf.any.below (below_alloc w5 _)) (lit_any w5 [3, 1] (by decide))).mono ?_
  rintro e w6 ⟨t, rfl, ht, hB6⟩
  replace hB6 := ext_trans (below_alloc w5 _) hB6
  clear hf
  replace hp := hp.below hB6
  replace hB1 := ext_trans hB1 hB6
  clear hB6
  rw [tb.2.2.2.1]
  rw [tb.2.2.2.2.1] at ht
  replace ht := ht.any
  obtain ⟨ta, tc, rfl⟩ := ht.isSlice
  go_wp2_with fail
  refine (fxga_calls w6).mono ?_
  rintro e w7 ⟨f, rfl, hf, hB7⟩
  replace hp := hp.below hB7
  replace ht := ht.below hB7
  replace hB1 := ext_trans hB1 hB7
  clear hB7
  go_wp2_with fail
  refine (Part_calls fxgaT _ 4 w7 hf.any).mono ?_
  rintro e w8 ⟨p4, rfl, -, hB8⟩
  clear hf
  replace hp := hp.below hB8
  replace ht := ht.below hB8
  replace hB1 := ext_trans hB1 hB8
  clear hB8
  rw [tb.2.2.2.2.2.1]
  go_wp2_with fail
  go_cut [10] (fun s10 wx => s10 = .int .i64 2 ∧ Hid (Below w8.heap.size w8 wx))
  case first =>
    have hmk := mk31
    have hz := Lib.hid z31_ints
    have hE : Hid (putE z31 0 fxgaT = 2) := tb.2.2.2.2.2.2.1
    go_region_with (first
      | (go_at_call 103; (with_reducible refine (fxga_calls (w8.alloc (.cells c31 3)).drew).mono ?_); rintro e wa ⟨f, rfl, hf, hBa⟩; have ordA : True := trivial; have hzA := Lib.hid (((hz.out w8).below (below_drew _ _)).below hBa))
      | (go_at_call 103; (with_reducible refine (fxga_calls w8.drew).mono ?_); rintro e wa ⟨f, rfl, hf, hBa⟩; have ordB : True := trivial)
      | (go_at_call 58; have _t := ordA; refine (Put_calls z31 fxgaT _ _ 0 _ hzA.out hf.any).mono ?_; rintro e wb ⟨y, rfl, hy, hBb⟩; rw [hE.out]; have hBw := Lib.hid (ext_trans (ext_trans (ext_trans (below_alloc w8 _) (below_drew _ _)) hBa) hBb); clear hy)
      | (go_at_call 58; have _t := ordB; refine (Put_calls z31 fxgaT _ _ 0 _ (hz.out wa) (hf.any.below (below_alloc wa _))).mono ?_; rintro e wb ⟨y, rfl, hy, hBb⟩; rw [hE.out]; have hBw := Lib.hid (ext_trans (ext_alloc (ext_trans (below_drew _ w8) hBa) _) hBb); clear hy))
    all_goals (go_wp2_with fail; go_meet; case rel => exact ⟨rfl, hBw.out⟩)
  case rest =>
    obtain ⟨rfl, hc⟩ := hcut
    replace hp := hp.below hc.out
    replace ht := ht.below hc.out
    replace hB1 := ext_trans hB1 hc.out
    clear hc
    go_wp2_with fail
    refine (SameTerms_eq [2, 0] _ _ _ (hp.below (below_alloc wc _)) (lit_any wc [2, 0] (by decide))).mono ?_
    rintro e w21 ⟨rfl, hB21⟩
    replace hB21 := ext_trans (below_alloc wc _) hB21
    clear hp
    replace ht := ht.below hB21
    replace hB1 := ext_trans hB1 hB21
    clear hB21
    go_wp2_with fail
    refine (SameTerms_eq [4, 3, 1, 2, 0] _ _ _ (ht.below (below_alloc w21 _)) (lit_any w21 [4, 3, 1, 2, 0] (by decide))).mono ?_
    rintro e w22 ⟨rfl, hB22⟩
    replace hB22 := ext_trans (below_alloc w21 _) hB22
    clear ht
    replace hB1 := ext_trans hB1 hB22
    clear hB22
    go_wp2_with fail
    refine (fxga_calls w22).mono ?_
    rintro e w23 ⟨f, rfl, hf, hB23⟩
    replace hB1 := ext_trans hB1 hB23
    clear hB23
    go_wp2_with fail
    refine (pure_below (Check_calls fxgaT _ w23 hf.any)).mono ?_
    rintro e w24 ⟨rfl, hB24⟩
    clear hf
    replace hB1 := ext_trans hB1 hB24
    clear hB24
    rw [tb.2.2.2.2.2.2.2.1]
    go_wp2_with fail
    refine (pure_below (Check_calls [4, 0] _ _ (lit_any w24 [4, 0] (by decide)))).mono ?_
    rintro e w25 ⟨rfl, hB25⟩
    replace hB25 := ext_trans (below_alloc w24 _) hB25
    replace hB1 := ext_trans hB1 hB25
    clear hB25
    rw [tb.2.2.2.2.2.2.2.2.1]
    go_wp2_with fail
    refine (pure_below (Check_calls [0, 0] _ _ (lit_any w25 [0, 0] (by decide)))).mono ?_
    rintro e w26 ⟨rfl, hB26⟩
    replace hB26 := ext_trans (below_alloc w25 _) hB26
    replace hB1 := ext_trans hB1 hB26
    clear hB26
    rw [tb.2.2.2.2.2.2.2.2.2.1]
    go_wp2_with fail
    refine (pure_below (Check_calls [6] _ _ (lit_any w26 [6] (by decide)))).mono ?_
    rintro e w27 ⟨rfl, hB27⟩
    replace hB27 := ext_trans (below_alloc w26 _) hB27
    replace hB1 := ext_trans hB1 hB27
    clear hB27
    rw [tb.2.2.2.2.2.2.2.2.2.2.1]
    go_wp2_with fail
    refine (pure_below (Check_calls [] _ _ (.nil _ w27))).mono ?_
    rintro e w28 ⟨rfl, hB28⟩
    replace hB1 := ext_trans hB1 hB28
    clear hB28
    rw [tb.2.2.2.2.2.2.2.2.2.2.2]
    go_wp2_with fail
    go_ret
    exact ⟨rfl, hB1⟩

end Go.Proofs.Ytepddehodmljeaa
