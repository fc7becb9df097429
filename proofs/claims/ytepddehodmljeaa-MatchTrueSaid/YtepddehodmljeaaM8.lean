/- Walks: match.Places: a range over it; match.Over. -/
import Derived.Test.YtepddehodmljeaaM7
import Derived.Test.YtepddehodmljeaaR2
import Derived.Stop.RegionWithIn
import Derived.Outline
namespace Go.Proofs.Ytepddehodmljeaa
open Go.RowKit Go.Maps Go.Shelf
attribute [local go_sem] Oper.semAt_some

theorem grown_of_below {w w' : World} (h : Below w.heap.size w w') : w.grownBy w' none := ⟨h.os, h.tape, h.output, h.size, fun k hk _ => h.block k hk⟩

set_option maxRecDepth 100000 in
set_option maxHeartbeats 2000000 in
theorem Places1_in (n : Nat) (hn : 1 ≤ n) (l Bt Bp : Nat) (M : Blk) (t p : List Int) (ht : chk t = 0) (hp : chk p = 0) (v x : Value) (J Jx : List (Nat × Value) → World → Prop)
    (hY : ∀ pre (y : Nat × Value) W, J pre W → pre.length < t.length → YieldAt Fence.wide (n - 1) Try.prog l #[.int .i64 (y.1 : Nat), y.2] W fun e W' =>
      (e = .returned (.bool true) ∧ J (pre ++ [y]) W' ∧ Keeps M W W') ∨ (e = .returned (.bool false) ∧ Jx (pre ++ [y]) W'))
    (W : World) (hJ : AbidesFrom W.heap.size J) (hBt : W.cell? ⟨Bt, 0, none⟩ = some v) (hBp : W.cell? ⟨Bp, 0, none⟩ = some x) (hlt : Bt < W.heap.size) (hlp : Bp < W.heap.size) (hMt : ¬ M Bt) (hMp : ¬ M Bp)
    (hM : ∀ l, W.heap.size ≤ l → M l) (hv : IsInts (fun b => ¬ M b) W v t) (hx : IsInts (fun b => ¬ M b) W x p) (h0 : J [] W) :
    CallsIn Fence.wide n Try.prog 171 #[.func (.yield l) #[] #[], .pointer (some ⟨Bt, 0, none⟩), .pointer (some ⟨Bp, 0, none⟩)] W fun e W' => (∃ v, e = .returned v) ∧
      ((∃ ys : List (Nat × Value), ys.map (fun y => (y.1 : Int)) = ovr t p t.length ∧ J ys W') ∨ (∃ pre : List (Nat × Value), True ∧ Jx pre W')) := by
  refine callsIn_of_wp Try.func171 rfl trivial ?_ rfl
  simp only [Try.ntmps171, List.size_toArray, List.length_cons, List.length_nil, Nat.reduceAdd, Nat.reduceSub, Array.replicate_succ, Array.replicate_zero, List.push_toArray, List.append_toArray, List.nil_append, List.cons_append]
  have hsm := Lib.hid (small_of_signs (signs_of_chk ht))
  have hln := len_of_chk ht
  have hv0 := Lib.hid hv
  have hx0 := Lib.hid hx
  have hT := Lib.hid (And.intro ht hp)
  obtain ⟨va, vc, rfl⟩ := hv.isSlice
  obtain ⟨xa, xc, rfl⟩ := hx.isSlice
  have hYh := Lib.hid hY
  have hJh := Lib.hid hJ
  have hMh := Lib.hid hM
  clear hv hx ht hp hY hJ hM
  gi_wp2_with fail
  gi_loopw [9] (fun i wr => ∃ k : Nat, k ≤ t.length ∧ i = .int .i64 k ∧ Hid (∃ ys : List (Nat × Value), ys.map (fun y => (y.1 : Int)) = ovr t p k ∧ J ys wr ∧ Keeps M W wr))
    (fun i _ => t.length - (intOf i).toNat)
  case atStart => exact ⟨0, by omega, rfl, [], rfl, h0, .refl _ _⟩
  case round =>
    obtain ⟨k, hk, rfl, ys, hys, hJ1, hK1⟩ := hrel
    have HY := Lib.hid hys
    have HJ := Lib.hid hJ1
    have HK := Lib.hid hK1
    by_cases hlt' : k < t.length
    · have hik : (k : Int) < t.length := by omega
      have c1 : wr.cell? ⟨Bt, 0, none⟩ = some (.slice va t.length vc) := (World.cell?_of_block (w := W) (hK1.block Bt hlt hMt)).trans hBt
      have c2 : wr.cell? ⟨Bp, 0, none⟩ = some (.slice xa p.length xc) := (World.cell?_of_block (w := W) (hK1.block Bp hlp hMp)).trans hBp
      clear hys hJ1 hK1
      have hAt : Hid (∀ W', Keeps M W W' → Calls Try.prog 117 #[.slice va t.length vc, .int .i64 k] W' fun e w' => ∃ y c, e = .returned (.slice y (paT t k).length c) ∧ IsInts (fun b => ¬ M b) W' (.slice y (paT t k).length c) (paT t k) ∧ W' = w') := fun W' hk' => by
        have hp := part_at hT.out.1 hlt'
        refine (At_calls (fun b => ¬ M b) t hsm.out _ k (enT t k) W' (hv0.out.mono (hk'.sok fun _ _ h => h)) hp.1 hp.2.1 hp.2.2.1).mono ?_
        rintro e w' ⟨y, rfl, hy, rfl⟩
        obtain ⟨a, c, rfl⟩ := hy.isSlice
        exact ⟨a, c, rfl, hy, rfl⟩
      have hW : Hid (∀ W' y, Keeps M W W' → IsInts (fun b => ¬ M b) W' y (paT t k) → Calls Try.prog 108 #[.slice xa p.length xc, y] W' fun e w' => ∃ z, e = .returned (.tuple #[z, .bool (fitL p (paT t k)).isSome]) ∧ Below W'.heap.size W' w') := fun W' y hk' hy => by
        refine (With_calls p (paT t k) hT.out.2 (chk_paT hT.out.1 hlt') _ y W' (hx0.out.mono ⟨hk'.size, fun b hb hl => ⟨trivial, hk'.block b hl hb⟩⟩) hy.any).mono ?_
        rintro e w' ⟨z, rfl, -, hb⟩
        exact ⟨z, rfl, hb⟩
      have hysl : ys.length < t.length := by
        have h1 := congrArg List.length HY.out
        have h2 := ovr_len t p k
        rw [List.length_map] at h1; omega
      cases hs : (fitL p (paT t k)).isSome
      · have hN : Hid (ovr t p (k + 1) = ovr t p k) := by rw [Hid, ovr, hs]; simp
        rw [hs] at hW
        clear hs
        gi_wp2_with fail
        gi_region_with (first
          | (refine ⟨trivial, (callsIn_wide.2 (hAt.out _ HK.out)).mono ?_⟩; rintro e w' ⟨y, yc, rfl, hy, rfl⟩)
          | (refine ⟨trivial, (callsIn_wide.2 (hAt.out _ (HK.out.trans (.of_below (below_drew _ _))))).mono ?_⟩; rintro e w' ⟨y, yc, rfl, hy, rfl⟩)
          | (refine ⟨trivial, (callsIn_wide.2 (hW.out _ _ HK.out hy)).mono ?_⟩; rintro e w' ⟨z, rfl, hb⟩)
          | (refine ⟨trivial, (callsIn_wide.2 (hW.out _ _ (HK.out.trans (.of_below (below_drew _ _))) hy)).mono ?_⟩; rintro e w' ⟨z, rfl, hb⟩))
        all_goals
          have hb2 : Below wr.heap.size wr w' := by first | exact hb | exact ext_trans (below_drew _ wr) hb
          have HB := Lib.hid hb2
          clear hb hb2 hy c1 c2
          gi_wp2_with fail
          refine ⟨(fun _ h => by cases h), ?_⟩
          gi_wp2_with fail
          go_roundw
          case rel => exact ⟨k + 1, by omega, by go_num, ys, by rw [HY.out, hN.out], hJh.out ys wr w' none HJ.out (grown_of_below HB.out) (fun r e => by cases e), HK.out.trans (.of_below HB.out)⟩
          case measure => simp [intOf]; omega
      · have hN : Hid (ovr t p (k + 1) = ovr t p k ++ [(k : Int)]) := by rw [Hid, ovr, hs]; simp
        rw [hs] at hW
        clear hs
        gi_wp2_with fail
        gi_region_with (first
          | (refine ⟨trivial, (callsIn_wide.2 (hAt.out _ HK.out)).mono ?_⟩; rintro e w' ⟨y, yc, rfl, hy, rfl⟩)
          | (refine ⟨trivial, (callsIn_wide.2 (hAt.out _ (HK.out.trans (.of_below (below_drew _ _))))).mono ?_⟩; rintro e w' ⟨y, yc, rfl, hy, rfl⟩)
          | (refine ⟨trivial, (callsIn_wide.2 (hW.out _ _ HK.out hy)).mono ?_⟩; rintro e w' ⟨z, rfl, hb⟩)
          | (refine ⟨trivial, (callsIn_wide.2 (hW.out _ _ (HK.out.trans (.of_below (below_drew _ _))) hy)).mono ?_⟩; rintro e w' ⟨z, rfl, hb⟩))
        all_goals
          have hb2 : Below wr.heap.size wr w' := by first | exact hb | exact ext_trans (below_drew _ wr) hb
          have HB := Lib.hid hb2
          have HJ2 := Lib.hid (hJh.out ys wr w' none HJ.out (grown_of_below HB.out) (fun r e => by cases e))
          clear hb hb2 hy c1 c2
          obtain ⟨fn, tmps, assign, body, hy, hR⟩ := hYh.out ys (k, z) w' HJ2.out hysl
          gi_wp2_with fail
          refine hR.mono ?_
          rintro e w5 (⟨rfl, hJ5, hk5⟩ | ⟨rfl, hJx5⟩)
          · have HJ5 := Lib.hid hJ5
            have HK5 := Lib.hid ((HK.out.trans (.of_below HB.out)).trans hk5)
            clear hJ5 hk5 hR hy
            gi_wp2_with fail
            go_roundw
            case rel => exact ⟨k + 1, by omega, by go_num, ys ++ [(k, z)], by rw [List.map_append, HY.out, hN.out]; rfl, HJ5.out, HK5.out⟩
            case measure => simp [intOf]; omega
          · gi_wp2_with fail
            refine bodyPost_ret (results_none rfl _ _ _) rfl ?_
            exact ⟨⟨_, rfl⟩, .inr ⟨_, trivial, hJx5⟩⟩
    · obtain rfl : k = t.length := by omega
      clear hys hJ1 hK1
      gi_wp2_with fail
      go_end0
      exact ⟨⟨_, rfl⟩, .inl ⟨ys, HY.out, HJ.out⟩⟩

end Go.Proofs.Ytepddehodmljeaa
