/- Walks: term.Parts: a range over it. -/
import Derived.RangeFuncNested
import Derived.RangeFuncBound
import Derived.RangeFuncCalls
import Derived.RangeFuncLeaves
import Derived.Shelf.Abstract
import Derived.Shelf.RegionOpen
import Derived.OwnWalkIn
import Derived.TacticsInMore
import Derived.LoopNIn
import Derived.LoopIn
import Derived.Test.YtepddehodmljeaaT5
import Derived.Test.YtepddehodmljeaaPg
import Derived.Outline
namespace Go.Proofs.Ytepddehodmljeaa
open Go.RowKit Go.Maps Go.Shelf
attribute [local go_sem] Oper.semAt_some

/-- The places of the parts of the term that begins at k. -/
def psT (t : List Int) (k : Nat) : List Nat := if ar (nth t k) = 0 then [] else if ar (nth t k) = 1 then [k + 1] else [k + 1, enT t (k + 1)]

/-- The i-th of them. -/
def psN (t : List Int) (k : Nat) (i : Nat) : Nat := if i = 0 then k + 1 else enT t (k + 1)
theorem psT_take {t : List Int} {k i : Nat} (h : i < ar (nth t k)) : (psT t k).take i ++ [psN t k i] = (psT t k).take (i + 1) := by
  have := ar_le (nth t k)
  unfold psT psN
  rcases (by omega : ar (nth t k) = 1 ∨ ar (nth t k) = 2) with e | e
  · rw [e] at h ⊢
    obtain rfl : i = 0 := by omega
    simp
  · rw [e] at h ⊢
    rcases (by omega : i = 0 ∨ i = 1) with rfl | rfl <;> simp
theorem psT_len (t : List Int) (k : Nat) : (psT t k).length = ar (nth t k) := by
  have := ar_le (nth t k)
  unfold psT
  rcases (by omega : ar (nth t k) = 0 ∨ ar (nth t k) = 1 ∨ ar (nth t k) = 2) with e | e | e <;> simp [e]

/-- A part's place lies within. -/
theorem psN_lt {t : List Int} (h : chk t = 0) {k i : Nat} (hk : k < t.length) (hi : i < ar (nth t k)) : psN t k i < t.length ∧ k < psN t k i := by
  obtain ⟨hx, hf⟩ := tm_chk h
  generalize tmOf t = x at *
  subst hf
  rw [size_flat] at hk ⊢
  rw [sub_sg hk] at hi
  have hy := sub_ok hx hk
  have h1 := sub_size hk
  unfold psN
  split
  · rename_i e
    subst e
    refine ⟨?_, by omega⟩
    cases hs : x.sub k with
    | leaf s => rw [hs] at hi hy; have e : ar s = 0 := hy; have e2 : 0 < ar s := hi; omega
    | un s a => rw [hs] at h1; simp only [Tm.size] at h1; have := size_pos a; omega
    | bin s a b => rw [hs] at h1; simp only [Tm.size] at h1; have := size_pos a; omega
  · rename_i e
    have h2 := ar_le (x.sub k).sg
    cases hs : x.sub k with
    | leaf s => rw [hs] at hi hy; have e : ar s = 0 := hy; have e2 : i < ar s := hi; omega
    | un s a => rw [hs] at hi hy; have e1 : ar s = 1 := hy.1; have e2 : i < ar s := hi; omega
    | bin s a b =>
      have h3 : x.sub (k + 1) = a := by
        rw [sub_sub x k 1 hk (by rw [hs]; simp [Tm.size]; have := size_pos a; omega), hs]
        show (if 0 < a.size then a.sub 0 else _) = _
        rw [if_pos (size_pos a), sub_zero]
      rw [hs] at h1
      simp only [Tm.size] at h1
      have h4 := size_pos a
      have h5 := size_pos b
      have h6 := (tm_at hx (k := k + 1) (by omega)).2.1
      rw [h6, h3]
      omega

set_option maxRecDepth 100000 in
set_option maxHeartbeats 1000000 in
theorem Parts1_in (n : Nat) (hn : 1 ≤ n) (l Bk Bt : Nat) (M : Blk) (t : List Int) (ht : chk t = 0) (k : Nat) (hk : k < t.length) (v : Value) (J Jx : List Nat → World → Prop)
    (hY : ∀ pre x W, J pre W → pre.length < (psT t k).length → YieldAt Fence.wide (n - 1) Try.prog l #[.int .i64 (x : Nat)] W fun e W' =>
      (e = .returned (.bool true) ∧ J (pre ++ [x]) W' ∧ Keeps M W W') ∨ (e = .returned (.bool false) ∧ Jx (pre ++ [x]) W'))
    (W : World) (hBk : W.cell? ⟨Bk, 0, none⟩ = some (.int .i64 k)) (hBt : W.cell? ⟨Bt, 0, none⟩ = some v) (hlt : Bt < W.heap.size) (hMt : ¬ M Bt) (hv : IsInts (fun b => ¬ M b) W v t) (h0 : J [] W) :
    CallsIn Fence.wide n Try.prog 172 #[.func (.yield l) #[] #[], .pointer (some ⟨Bk, 0, none⟩), .pointer (some ⟨Bt, 0, none⟩)] W fun e W' => (∃ v, e = .returned v) ∧
      ((∃ ys, ys = psT t k ∧ J ys W') ∨ (∃ pre, pre <+: psT t k ∧ Jx pre W')) := by
  refine callsIn_of_wp Try.func172 rfl trivial ?_ rfl
  simp only [Try.ntmps172, List.size_toArray, List.length_cons, List.length_nil, Nat.reduceAdd, Nat.reduceSub, Array.replicate_succ, Array.replicate_zero, List.push_toArray, List.append_toArray, List.nil_append, List.cons_append]
  have hsm := Lib.hid (small_of_signs (signs_of_chk ht))
  have hln := len_of_chk ht
  have hv0 := Lib.hid hv
  obtain ⟨-, ⟨rfl, -⟩ | ⟨-, b, o, c, rfl, hcap, hbn, hbl, hc⟩⟩ := hv
  · simp at hk
  have hcell := hc k hk
  have hs := hsm.out _ (nth_mem hk)
  have har := ar_le (nth t k)
  have hp := Lib.hid fun i => psN_lt ht hk (i := i)
  have hkk : (k : Int) < t.length := by omega
  have hT := Lib.hid ht
  have hYh := Lib.hid hY
  clear hc ht hY
  gi_wp2_with fail
  refine ⟨trivial, (callsIn_wide.2 (Size_calls _ hs.1 hs.2 _)).mono ?_⟩
  rintro e w' ⟨rfl, rfl⟩
  gi_wp2_with fail
  gi_loopw [4, 12] (fun z i wr => ∃ j : Nat, j ≤ ar (nth t k) ∧ i = .int .i64 j ∧ (∃ zz, z = .int .i64 zz ∧ Hid (j < ar (nth t k) → zz = (psN t k j : Nat))) ∧ Hid (J ((psT t k).take j) wr ∧ Keeps M W wr))
    (fun _ i _ => ar (nth t k) - (intOf i).toNat)
  case atStart => exact ⟨0, by omega, rfl, ⟨_, rfl, fun _ => by simp [psN]⟩, by simpa using h0, .refl _ _⟩
  case round =>
    obtain ⟨j, hj, rfl, ⟨zz, rfl, hz⟩, hR⟩ := hrel
    by_cases hlt' : j < ar (nth t k)
    · obtain rfl := hz.out hlt'
      clear hz
      obtain ⟨fn, tmps, assign, body, hy, hRd⟩ := hYh.out _ (psN t k j) wr hR.out.1 (by rw [psT_len, List.length_take, psT_len]; omega)
      have hji : (j : Int) < ar (nth t k) := by omega
      gi_wp2_with fail
      refine hRd.mono ?_
      rintro e W3 (⟨rfl, hJ3, hk3⟩ | ⟨rfl, hJx3⟩)
      · have hB3 := Lib.hid (hR.out.2.trans hk3)
        have hBt3 : W3.cell? ⟨Bt, 0, none⟩ = some (.slice (some ⟨b, o, none⟩) t.length c) := (World.cell?_of_block (w := W) (hB3.out.block Bt hlt hMt)).trans hBt
        have hv3 : IsInts Any W3 (.slice (some ⟨b, o, none⟩) t.length c) t := hv0.out.mono ⟨hB3.out.size, fun i hi hl => ⟨trivial, hB3.out.block i hl hi⟩⟩
        have hSk := Lib.hid (Skip_calls t hsm.out _ W3 hv3 t.length (psN t k j : Nat) (by omega))
        have hJ4 := Lib.hid hJ3
        clear hv3 hk3 hJ3
        gi_wp2_with fail
        refine ⟨trivial, (callsIn_wide.2 hSk.out).mono ?_⟩
        rintro e w' ⟨rfl, rfl⟩
        gi_wp2_with fail
        go_roundw
        case rel =>
          refine ⟨j + 1, by omega, by go_num, ⟨_, rfl, fun hj2 => ?_⟩, by rw [← psT_take hlt']; exact hJ4.out, hB3.out⟩
          have e : j = 0 := by omega
          subst e
          have h1 := (hp.out 0 hlt').1
          have h2 : psN t k 0 = k + 1 := rfl
          rw [h2] at h1 ⊢
          exact (part_at hT.out h1).1
        case measure => simp [intOf]; omega
      · gi_wp2_with fail
        refine bodyPost_ret (results_none rfl _ _ _) rfl ?_
        refine ⟨⟨_, rfl⟩, .inr ⟨_, ?_, hJx3⟩⟩
        rw [psT_take hlt']
        exact List.take_prefix _ _
    · obtain rfl : j = ar (nth t k) := by omega
      gi_wp2_with fail
      go_end0
      exact ⟨⟨_, rfl⟩, .inl ⟨_, by rw [← psT_len, List.take_length], hR.out.1⟩⟩

/-- What Parts hands back: all places, or some of them, where a round has said 'no more'. -/
theorem Parts_stops (n : Nat) (hn : 1 ≤ n) (Bk Bt : Nat) (M : Blk) (t : List Int) (ht : chk t = 0) (k : Nat) (hk : k < t.length) (v : Value) (w : World) (hBk : w.cell? ⟨Bk, 0, none⟩ = some (.int .i64 k)) (hBt : w.cell? ⟨Bt, 0, none⟩ = some v)
    (hlk : Bk < w.heap.size) (hlt : Bt < w.heap.size) (hMt : ¬ M Bt) (hv : IsInts (fun b => ¬ M b) w v t) :
    SeqStopsK Fence.wide n Try.prog 172 #[.pointer (some ⟨Bk, 0, none⟩), .pointer (some ⟨Bt, 0, none⟩)] (fun x : Nat => #[Value.int .i64 (x : Nat)]) (Keeps M) (fun ys => ys = psT t k) (fun pre => pre <+: psT t k) (psT t k).length w :=
  fun l J Jx W hW _ _ hY h0 => Parts1_in n hn l Bk Bt M t ht k hk v J Jx hY W ((hW.cell (p := ⟨Bk, 0, none⟩) hlk).trans hBk) ((hW.cell (p := ⟨Bt, 0, none⟩) hlt).trans hBt) (Nat.lt_of_lt_of_le hlt hW.size) hMt
    (hv.mono ⟨hW.size, fun b hb hl => ⟨hb, hW.block b hl⟩⟩) h0
theorem keepsK_b {M : Blk} {w : World} (hM : ∀ l, w.heap.size ≤ l → M l) (W : World) (l : Nat) (o o' : Obj) (hl : w.heap.size ≤ l) (_ : W.heap[l]? = some o) (_ : o.isCells = false) (_ : o.isWalk = false) : Keeps M W (W.putObj l o') :=
  ⟨rfl, rfl, rfl, (grownBy_putObj' W l o').size, fun k hk hm => (grownBy_putObj' W l o').block k hk fun e => hm (by cases e; exact hM _ hl)⟩

theorem Parts_calls (v : Value) (k : Int) (w : World) (hv : v.oneCell' = true) :
    Calls Try.prog 114 #[v, .int .i64 k] w fun e w' => e = .returned (.func (.func 172) #[] #[.pointer (some ⟨w.heap.size + 1, 0, none⟩), .pointer (some ⟨w.heap.size, 0, none⟩)]) ∧ w' = (w.alloc (.cells #[v] 24)).alloc (.cells #[.int .i64 k] 3) := by
  go_enter Try.func114, Try.ntmps114
  go_wp2_with fail
  go_ret
  exact ⟨rfl, rfl⟩

end Go.Proofs.Ytepddehodmljeaa
