/- Walks: haspref.fit. -/
import Derived.Test.YtepddehodmljeaaT8
import Derived.Test.YtepddehodmljeaaPi
import Derived.Test.YtepddehodmljeaaD8
import Derived.StillTailTactics
namespace Go.Proofs.Ytepddehodmljeaa
open Go.RowKit Go.Maps

/-- The array in block A notes what variables become. -/
def ArrIs (base A : Nat) (w : World) (bl : Bl) : Prop :=
  ∃ xs, w.ownsRow base 180 1 (.slice (some ⟨A, 0, none⟩) 8 8) 8 xs ∧
    ∀ v : Nat, v < 8 → (lk bl (-1 - (v : Int)) = none ∧ xs[v]? = some (.pointer none)) ∨ (∃ y p, lk bl (-1 - (v : Int)) = some y.flat ∧ y.flat.length ≤ 1000 ∧ xs[v]? = some p ∧ IsTree (fun b => b ≠ A) w y p)

theorem ArrIs.lt {base A : Nat} {w : World} {bl : Bl} (h : ArrIs base A w bl) : base ≤ A ∧ A < w.heap.size := by
  obtain ⟨xs, h1, -⟩ := h; exact h1.lt A rfl
theorem ArrIs.keep {base A : Nat} {w w' : World} {bl : Bl} (h : ArrIs base A w bl) (hb : Below w.heap.size w w') : ArrIs base A w' bl := by
  have hl := h.lt
  obtain ⟨xs, h1, h2⟩ := h
  refine ⟨xs, ownsRow_keep h1 fun k hk => hb.block k (h1.lt k hk).2, fun v hv => ?_⟩
  rcases h2 v hv with h3 | ⟨y, p, h3, h4, h5, h6⟩
  · exact .inl h3
  · exact .inr ⟨y, p, h3, h4, h5, h6.below hb⟩
theorem ArrIs.at {base A : Nat} {w : World} {bl : Bl} (h : ArrIs base A w bl) {v : Nat} (hv : v < 8) :
    (lk bl (-1 - (v : Int)) = none ∧ w.cell? ⟨A, v, none⟩ = some (.pointer none)) ∨ (∃ y p, lk bl (-1 - (v : Int)) = some y.flat ∧ y.flat.length ≤ 1000 ∧ w.cell? ⟨A, v, none⟩ = some p ∧ IsTree (fun b => b ≠ A) w y p) := by
  obtain ⟨xs, h1, h2⟩ := h
  rcases h2 v hv with ⟨h3, h4⟩ | ⟨y, p, h3, h4, h5, h6⟩
  · exact .inl ⟨h3, by rw [h1.cellAt v (by omega)]; exact h4⟩
  · exact .inr ⟨y, p, h3, h4, by rw [h1.cellAt v (by omega)]; exact h5, h6⟩

/-- A tree's first cell. -/
theorem tree_box {S : Blk} {w : World} {x : Tm} {v : Value} (h : IsTree S w x v) : ∃ B, v = .pointer (some ⟨B, 0, none⟩) ∧ B < w.heap.size ∧ w.cell? ⟨B, 0, none⟩ = some (.int .i64 x.sg) := by
  cases x with
  | leaf s => obtain ⟨B, h, -, h2, h3, _⟩ := h; exact ⟨B, h, h2, h3⟩
  | un s a => obtain ⟨B, _, _, _, h, -, h2, h3, _⟩ := h; exact ⟨B, h, h2, h3⟩
  | bin s a b => obtain ⟨B, _, _, _, _, h, -, h2, h3, _⟩ := h; exact ⟨B, h, h2, h3⟩

/-- How fit ends. -/
def FitPost (base A : Nat) (w : World) (r : Option Bl) (e : Ending) (w' : World) : Prop :=
  e = .returned (.bool r.isSome) ∧ (∀ bl', r = some bl' → ArrIs base A w' bl') ∧ Keeps (fun b => b = A) w w'

theorem fit_var_eq {s : Int} (hs : s < 0) (t : Tm) (bl : Bl) : fitM (.leaf s) t bl = bindV bl s t.flat := by cases t <;> exact if_pos hs

set_option maxRecDepth 100000 in
set_option maxHeartbeats 1000000 in
theorem fit_var (base A : Nat) (s : Int) (t : Tm) (bl : Bl) (u v : Value) (w : World) (hs : s < 0) (hs8 : -8 ≤ s) (hl : t.flat.length ≤ 1000) (hA : ArrIs base A w bl) (hu : IsTree (fun b => b ≠ A) w (.leaf s) u) (hv : IsTree (fun b => b ≠ A) w t v) :
    Calls Try.prog 169 #[u, v, .pointer (some ⟨A, 0, none⟩)] w (FitPost base A w (fitM (.leaf s) t bl)) := by
  obtain ⟨B, rfl, -, hBl, hc0, hc1⟩ := hu
  obtain ⟨C, rfl⟩ := tree_ptr hv
  have hAl := hA.lt
  have hv8 : (-s).toNat - 1 < 8 := by omega
  have hvi : -1 - (((-s).toNat - 1 : Nat) : Int) = s := by omega
  rcases hA.at hv8 with ⟨h1, h2⟩ | ⟨y, p, h1, h2, h3, h4⟩
  · rw [hvi] at h1
    have hr : Hid (fitM (.leaf s) t bl = some (bl ++ [(s, t.flat)])) := by rw [Hid, fit_var_eq hs, bindV, h1]
    have hN := Lib.hid h1
    clear h1
    obtain ⟨i155, hi, hz, hsz, hby⟩ := info_parts Try.inf155
    obtain ⟨xs, k1, k2⟩ := hA
    have K1 := Lib.hid k1
    have K2 := Lib.hid k2
    have HV := Lib.hid hv
    have HI := Lib.hid hvi
    clear k1 k2 hv hvi
    go_enter Try.func169, Try.ntmps169
    go_wp2_with ((with_reducible show wpList _ _ _ (Oper.mk none (Op.store _ _ _) _ _ _ _ :: _) _ _); refine store_own _ _ 155 rfl rfl rfl i155 hi hsz base 180 A ((-s).toNat - 1) 8 8 _ rfl K1.out ?d2 rfl ?_; rotate_left 1; intro w3 hR3 hG3 hz3)
    case d2 => exact hv8
    go_ret
    rw [hr.out]
    refine ⟨rfl, fun bl' hb => ?_, ⟨hG3.os, hG3.tape, hG3.output, hG3.size, fun k hk hm => hG3.block k hk fun e => hm (by cases e; rfl)⟩⟩
    cases hb
    refine ⟨_, hR3, fun j hj => ?_⟩
    have hsk : Sok (fun b => b ≠ A) (fun b => b ≠ A) w w3 := ⟨hG3.size, fun b hb hl => ⟨hb, hG3.block b hl fun e => hb (by cases e; rfl)⟩⟩
    have hxl : xs.length = 8 := by have := K1.out.1; omega
    by_cases hj2 : j = (-s).toNat - 1
    · subst hj2
      rw [HI.out]
      exact .inr ⟨t, _, lk_new hN.out, hl, by rw [List.getElem?_set_self (by omega)]; rfl, HV.out.mono hsk⟩
    · rw [lk_other (by omega), List.getElem?_set_ne (fun e => hj2 e.symm)]
      rcases K2.out j hj with h3 | ⟨y, p, h3, h4, h5, h6⟩
      · exact .inl h3
      · exact .inr ⟨y, p, h3, h4, h5, h6.mono hsk⟩
  · rw [hvi] at h1
    have hr : Hid (fitM (.leaf s) t bl = if y.flat = t.flat then some bl else none) := by rw [Hid, fit_var_eq hs, bindV, h1]
    obtain ⟨D, rfl⟩ := tree_ptr h4
    have hf1 := Lib.hid (flat_calls y _ w h2 h4.any)
    have hf2 := Lib.hid fun W (hb : Below w.heap.size w W) => flat_calls t _ W hl (hv.any.below hb)
    have HA := Lib.hid fun W (hb : Below w.heap.size w W) => hA.keep hb
    clear h1 hA h4 hv hl hvi
    go_enter Try.func169, Try.ntmps169
    go_wp2_with fail
    refine hf1.out.mono ?_
    rintro e w1 ⟨a, rfl, ha, hB1⟩
    go_wp2_with fail
    refine (hf2.out w1 hB1).mono ?_
    rintro e w2 ⟨b, rfl, hb, hB2⟩
    have ha2 := Lib.hid (ha.any.below hB2)
    have hb2 := Lib.hid hb.any
    clear ha hb
    go_wp2_with fail
    refine (SameTerms_calls _ _ _ _ w2 ha2.out hb2.out).mono ?_
    rintro e w3 ⟨rfl, n, rfl⟩
    go_wp2_with fail
    go_ret
    have hB3 := (ext_trans hB1 hB2).trans (below_drewN _ w2 n)
    rw [hr.out]
    refine ⟨?_, fun bl' hb => ?_, .of_below hB3⟩
    · by_cases h : y.flat = t.flat <;> simp [h]
    · split at hb
      · cases hb; exact HA.out _ hB3
      · cases hb

set_option maxRecDepth 100000 in
theorem fit_clash (base A : Nat) (x t : Tm) (bl : Bl) (u v : Value) (w : World) (h0 : 0 ≤ x.sg) (hx : x.ok) (ht : t.ok) (hne : x.sg ≠ t.sg) (hu : IsTree (fun b => b ≠ A) w x u) (hv : IsTree (fun b => b ≠ A) w t v) :
    Calls Try.prog 169 #[u, v, .pointer (some ⟨A, 0, none⟩)] w (FitPost base A w (fitM x t bl)) := by
  have hr : Hid (fitM x t bl = none) := fitM_clash h0 hx ht hne bl
  obtain ⟨B, rfl, hBl, hc0⟩ := tree_box hu
  obtain ⟨C, rfl, hCl, hd0⟩ := tree_box hv
  have hne' : (x.sg != t.sg) = true := by simpa using hne
  clear hne hu hv
  go_enter Try.func169, Try.ntmps169
  go_wp2_with fail
  go_quiet (fail)
  go_wp2_with fail
  go_ret
  rw [hr.out]
  exact ⟨rfl, (fun _ h => by cases h), .of_below (below_drewN _ _ _)⟩

set_option maxRecDepth 100000 in
theorem fit_leaf (base A : Nat) (s : Int) (t : Tm) (bl : Bl) (u v : Value) (w : World) (h0 : 0 ≤ s) (he : s = t.sg) (hA : ArrIs base A w bl) (hu : IsTree (fun b => b ≠ A) w (.leaf s) u) (hv : IsTree (fun b => b ≠ A) w t v) :
    Calls Try.prog 169 #[u, v, .pointer (some ⟨A, 0, none⟩)] w (FitPost base A w (fitM (.leaf s) t bl)) := by
  have hr : Hid (fitM (.leaf s) t bl = some bl) := by
    have h1 : ¬ s < 0 := by omega
    cases t <;> (show (if s < 0 then _ else if s = _ then _ else _) = _) <;> rw [if_neg h1, if_pos he]
  obtain ⟨B, rfl, -, hBl, hc0, hc1⟩ := hu
  obtain ⟨C, rfl, hCl, hd0⟩ := tree_box hv
  rw [← he] at hd0
  have hk := Lib.hid fun W (hb : Below w.heap.size w W) => hA.keep hb
  clear hv hA
  go_enter Try.func169, Try.ntmps169
  go_wp2_with fail
  go_quiet (fail)
  go_wp2_with fail
  refine wp_loop_rounds 1 ?_
  rw [rounds_succ]
  go_wp2_with fail
  go_ret
  rw [hr.out]
  exact ⟨rfl, (fun _ h => by cases h; exact hk.out _ (below_drewN _ _ _)), .of_below (below_drewN _ _ _)⟩

set_option maxRecDepth 100000 in
set_option maxHeartbeats 1000000 in
theorem fit_un (base A : Nat) (s : Int) (a a' : Tm) (bl : Bl) (u v : Value) (w : World) (h0 : 0 ≤ s) (hA : ArrIs base A w bl) (hu : IsTree (fun b => b ≠ A) w (.un s a) u) (hv : IsTree (fun b => b ≠ A) w (.un s a') v)
    (ih : ∀ (bl : Bl) (u v : Value) (w : World), ArrIs base A w bl → IsTree (fun b => b ≠ A) w a u → IsTree (fun b => b ≠ A) w a' v → Calls Try.prog 169 #[u, v, .pointer (some ⟨A, 0, none⟩)] w (FitPost base A w (fitM a a' bl))) :
    Calls Try.prog 169 #[u, v, .pointer (some ⟨A, 0, none⟩)] w (FitPost base A w (fitM (.un s a) (.un s a') bl)) := by
  have hr : Hid (fitM (.un s a) (.un s a') bl = fitM a a' bl) := if_pos rfl
  obtain ⟨B, g, c, x, rfl, hBA, hBl, hc0, hc1, hgA, hgl, hcx, ht⟩ := hu
  obtain ⟨B', g', c', x', rfl, hBA', hBl', hd0, hd1, hgA', hgl', hdx, ht'⟩ := hv
  have hI := Lib.hid fun W (hb : Below w.heap.size w W) => ih bl x x' W (hA.keep hb) (ht.below hb) (ht'.below hb)
  clear ih hA ht ht'
  go_enter Try.func169, Try.ntmps169
  go_wp2_with fail
  go_quiet (fail)
  obtain ⟨w1, hw1⟩ : ∃ w1, w1 = w.drewN nq := ⟨_, rfl⟩
  have e1 : w1.cell? ⟨B, 1, none⟩ = some (.slice (some ⟨g, 0, none⟩) 1 c) := by rw [hw1]; exact hc1
  have e2 : w1.cell? ⟨B', 1, none⟩ = some (.slice (some ⟨g', 0, none⟩) 1 c') := by rw [hw1]; exact hd1
  have e3 : w1.cell? ⟨g, 0, none⟩ = some x := by rw [hw1]; exact hcx
  have e4 : w1.cell? ⟨g', 0, none⟩ = some x' := by rw [hw1]; exact hdx
  have hB1 : Hid (Below w.heap.size w w1) := by rw [hw1]; exact below_drewN _ _ _
  rw [← hw1]
  clear hw1 hc0 hc1 hcx hd0 hd1 hdx
  go_wp2_with fail
  refine wp_loop_rounds 2 ?_
  rw [rounds_succ]
  go_wp2_with fail
  go_still_tail 15, (by kernel_rfl)
  change wpList _ _ _ _ _ (w1.drewN 1)
  have hB2 := Lib.hid (hB1.out.trans (below_drewN _ w1 1))
  have e5 : (w1.drewN 1).cell? ⟨B, 1, none⟩ = some (.slice (some ⟨g, 0, none⟩) 1 c) := e1
  have hcall := Lib.hid (hI.out _ hB2.out)
  have hBl2 : B < (w1.drewN 1).heap.size := Nat.lt_of_lt_of_le hBl hB2.out.size
  clear hI e1 e2 e3 e4 hB1
  generalize w1.drewN 1 = w2 at *
  clear w1
  have hB0 := Lib.hid (Keeps.of_below (M := fun b => b = A) hB2.out)
  cases hm : fitM a a' bl with
  | none =>
    rw [hm] at hcall hr
    clear hm
    go_wp2_with fail
    refine hcall.out.mono ?_
    rintro e w3 ⟨rfl, -, hK3⟩
    go_wp2_with fail
    go_ret
    rw [hr.out]
    exact ⟨rfl, (fun _ h => by cases h), hB0.out.trans hK3⟩
  | some bm =>
    rw [hm] at hcall hr
    clear hm
    go_wp2_with fail
    refine hcall.out.mono ?_
    rintro e w3 ⟨rfl, hA3, hK3⟩
    have e6 : w3.cell? ⟨B, 1, none⟩ = some (.slice (some ⟨g, 0, none⟩) 1 c) := (World.cell?_of_block (w := w2) (hK3.block B hBl2 hBA)).trans e5
    have hA4 := Lib.hid hA3
    have hK4 := Lib.hid hK3
    clear hA3 hK3 e5 hcall
    go_wp2_with fail
    rw [rounds_succ]
    go_wp2_with fail
    go_ret
    rw [hr.out]
    exact ⟨rfl, hA4.out, hB0.out.trans hK4.out⟩

set_option maxRecDepth 100000 in
set_option maxHeartbeats 1000000 in
theorem fit_bin (base A : Nat) (s : Int) (a d a' d' : Tm) (bl : Bl) (u v : Value) (w : World) (h0 : 0 ≤ s) (hA : ArrIs base A w bl) (hu : IsTree (fun b => b ≠ A) w (.bin s a d) u) (hv : IsTree (fun b => b ≠ A) w (.bin s a' d') v)
    (ih : ∀ (bl : Bl) (u v : Value) (w : World), ArrIs base A w bl → IsTree (fun b => b ≠ A) w a u → IsTree (fun b => b ≠ A) w a' v → Calls Try.prog 169 #[u, v, .pointer (some ⟨A, 0, none⟩)] w (FitPost base A w (fitM a a' bl)))
    (ih' : ∀ (bl : Bl) (u v : Value) (w : World), ArrIs base A w bl → IsTree (fun b => b ≠ A) w d u → IsTree (fun b => b ≠ A) w d' v → Calls Try.prog 169 #[u, v, .pointer (some ⟨A, 0, none⟩)] w (FitPost base A w (fitM d d' bl))) :
    Calls Try.prog 169 #[u, v, .pointer (some ⟨A, 0, none⟩)] w (FitPost base A w (fitM (.bin s a d) (.bin s a' d') bl)) := by
  have hr : Hid (fitM (.bin s a d) (.bin s a' d') bl = (fitM a a' bl).bind fun b => fitM d d' b) := if_pos rfl
  obtain ⟨B, g, c, x, y, rfl, hBA, hBl, hc0, hc1, hgA, hgl, hcx, hcy, ht, hty⟩ := hu
  obtain ⟨B', g', c', x', y', rfl, hBA', hBl', hd0, hd1, hgA', hgl', hdx, hdy, ht', hty'⟩ := hv
  have hI := Lib.hid fun W (hb : Below w.heap.size w W) => ih bl x x' W (hA.keep hb) (ht.below hb) (ht'.below hb)
  have hI2 := Lib.hid fun W bm (hb : Keeps (fun b => b = A) w W) (hA : ArrIs base A W bm) => ih' bm y y' W hA (hty.mono (hb.sok fun _ _ h1 h2 => h1 h2)) (hty'.mono (hb.sok fun _ _ h1 h2 => h1 h2))
  clear ih ih' hA ht ht' hty hty'
  go_enter Try.func169, Try.ntmps169
  go_wp2_with fail
  go_quiet (fail)
  obtain ⟨w1, hw1⟩ : ∃ w1, w1 = w.drewN nq := ⟨_, rfl⟩
  have e1 : w1.cell? ⟨B, 1, none⟩ = some (.slice (some ⟨g, 0, none⟩) 2 c) := by rw [hw1]; exact hc1
  have e2 : w1.cell? ⟨B', 1, none⟩ = some (.slice (some ⟨g', 0, none⟩) 2 c') := by rw [hw1]; exact hd1
  have e3 : w1.cell? ⟨g, 0, none⟩ = some x := by rw [hw1]; exact hcx
  have e4 : w1.cell? ⟨g', 0, none⟩ = some x' := by rw [hw1]; exact hdx
  have hB1 : Hid (Below w.heap.size w w1) := by rw [hw1]; exact below_drewN _ _ _
  have HC := Lib.hid (show w.cell? ⟨B, 1, none⟩ = some (.slice (some ⟨g, 0, none⟩) 2 c) ∧ w.cell? ⟨B', 1, none⟩ = some (.slice (some ⟨g', 0, none⟩) 2 c') ∧ w.cell? ⟨g, 1, none⟩ = some y ∧ w.cell? ⟨g', 1, none⟩ = some y' from ⟨hc1, hd1, hcy, hdy⟩)
  rw [← hw1]
  clear hw1 hc0 hc1 hcx hd0 hd1 hdx hcy hdy
  go_wp2_with fail
  refine wp_loop_rounds 3 ?_
  rw [rounds_succ]
  go_wp2_with fail
  go_still_tail 15, (by kernel_rfl)
  change wpList _ _ _ _ _ (w1.drewN 1)
  have hB2 := Lib.hid (hB1.out.trans (below_drewN _ w1 1))
  have hcall := Lib.hid (hI.out _ hB2.out)
  have hBl2 : B < (w1.drewN 1).heap.size := Nat.lt_of_lt_of_le hBl hB2.out.size
  clear hI e1 e2 e3 e4 hB1
  generalize w1.drewN 1 = w2 at *
  clear w1
  have hB0 := Lib.hid (Keeps.of_below (M := fun b => b = A) hB2.out)
  cases hm : fitM a a' bl with
  | none =>
    rw [hm] at hcall hr
    clear hm
    go_wp2_with fail
    refine hcall.out.mono ?_
    rintro e w3 ⟨rfl, -, hK3⟩
    go_wp2_with fail
    go_ret
    rw [hr.out]
    exact ⟨rfl, (fun _ h => by cases h), hB0.out.trans hK3⟩
  | some bm =>
    rw [hm] at hcall hr
    clear hm
    go_wp2_with fail
    refine hcall.out.mono ?_
    rintro e w3 ⟨rfl, hA3, hK3⟩
    have hK4 := Lib.hid (hB0.out.trans hK3)
    have hA4 := Lib.hid (hA3 bm rfl)
    have e1 : w3.cell? ⟨B, 1, none⟩ = some (.slice (some ⟨g, 0, none⟩) 2 c) := (World.cell?_of_block (w := w) (hK4.out.block B hBl hBA)).trans HC.out.1
    have e2 : w3.cell? ⟨B', 1, none⟩ = some (.slice (some ⟨g', 0, none⟩) 2 c') := (World.cell?_of_block (w := w) (hK4.out.block B' hBl' hBA')).trans HC.out.2.1
    have e3 : w3.cell? ⟨g, 1, none⟩ = some y := (World.cell?_of_block (w := w) (hK4.out.block g hgl hgA)).trans HC.out.2.2.1
    have e4 : w3.cell? ⟨g', 1, none⟩ = some y' := (World.cell?_of_block (w := w) (hK4.out.block g' hgl' hgA')).trans HC.out.2.2.2
    clear hA3 hK3 hcall
    go_wp2_with fail
    rw [rounds_succ]
    go_wp2_with fail
    go_still_tail 15, (by kernel_rfl)
    change wpList _ _ _ _ _ (w3.drewN 1)
    have hK5 : Hid (Keeps (fun b => b = A) w (w3.drewN 1)) := hK4.out.trans (Keeps.of_below (below_drewN _ w3 1))
    have hcall := Lib.hid (hI2.out _ bm hK5.out (hA4.out.keep (below_drewN _ w3 1)))
    have hBl3 : B < (w3.drewN 1).heap.size := Nat.lt_of_lt_of_le hBl hK5.out.size
    clear hI2 e1 e2 e3 e4 hK4 hA4
    generalize w3.drewN 1 = w4 at *
    clear w3
    cases hm : fitM d d' bm with
    | none =>
      rw [hm] at hcall
      have hr2 : Hid (fitM (.bin s a d) (.bin s a' d') bl = none) := hr.out.trans hm
      clear hm
      go_wp2_with fail
      refine hcall.out.mono ?_
      rintro e w5 ⟨rfl, -, hK3⟩
      go_wp2_with fail
      go_ret
      rw [hr2.out]
      exact ⟨rfl, (fun _ h => by cases h), hK5.out.trans hK3⟩
    | some bn =>
      rw [hm] at hcall
      have hr2 : Hid (fitM (.bin s a d) (.bin s a' d') bl = some bn) := hr.out.trans hm
      clear hm
      go_wp2_with fail
      refine hcall.out.mono ?_
      rintro e w5 ⟨rfl, hA3, hK3⟩
      have hK6 := Lib.hid (hK5.out.trans hK3)
      have e6 : w5.cell? ⟨B, 1, none⟩ = some (.slice (some ⟨g, 0, none⟩) 2 c) := (World.cell?_of_block (w := w) (hK6.out.block B hBl hBA)).trans HC.out.1
      have hA6 := Lib.hid hA3
      clear hA3 hK3 hcall
      go_wp2_with fail
      rw [rounds_succ]
      go_wp2_with fail
      go_ret
      rw [hr2.out]
      exact ⟨rfl, hA6.out, hK6.out⟩

/-- fit, of right trees. -/
theorem fit_calls (base A : Nat) : ∀ (x t : Tm) (bl : Bl) (u v : Value) (w : World), x.ok → t.ok → (∀ s ∈ x.flat, -8 ≤ s) → t.flat.length ≤ 1000 → ArrIs base A w bl → IsTree (fun b => b ≠ A) w x u → IsTree (fun b => b ≠ A) w t v →
    Calls Try.prog 169 #[u, v, .pointer (some ⟨A, 0, none⟩)] w (FitPost base A w (fitM x t bl))
  | .leaf s, t, bl, u, v, w, hx, ht, hs, hl, hA, hu, hv => by
    by_cases h0 : s < 0
    · exact fit_var base A s t bl u v w h0 (hs s (by simp [Tm.flat])) hl hA hu hv
    · by_cases he : s = t.sg
      · exact fit_leaf base A s t bl u v w (by omega) he hA hu hv
      · exact fit_clash base A _ t bl u v w (Int.not_lt.1 h0) hx ht he hu hv
  | .un s a, t, bl, u, v, w, hx, ht, hs, hl, hA, hu, hv => by
    have h0 : 0 ≤ s := by have := ar_pos (s := s) (by rw [hx.1]; decide); omega
    by_cases he : s = t.sg
    · cases t with
      | leaf s' => have e : ar s' = 0 := ht; have e2 : s = s' := he; rw [← e2, hx.1] at e; cases e
      | bin s' a' d' => have e := ht.1; have e2 : s = s' := he; rw [← e2, hx.1] at e; cases e
      | un s' a' =>
        have e2 : s = s' := he
        subst e2
        exact fit_un base A s a a' bl u v w h0 hA hu hv fun bl u v w h1 h2 h3 => fit_calls base A a a' bl u v w hx.2 ht.2 (fun x hx => hs x (by simp [Tm.flat, hx])) (by simp [Tm.flat] at hl; omega) h1 h2 h3
    · exact fit_clash base A _ t bl u v w h0 hx ht he hu hv
  | .bin s a d, t, bl, u, v, w, hx, ht, hs, hl, hA, hu, hv => by
    have h0 : 0 ≤ s := by have := ar_pos (s := s) (by rw [hx.1]; decide); omega
    by_cases he : s = t.sg
    · cases t with
      | leaf s' => have e : ar s' = 0 := ht; have e2 : s = s' := he; rw [← e2, hx.1] at e; cases e
      | un s' a' => have e := ht.1; have e2 : s = s' := he; rw [← e2, hx.1] at e; cases e
      | bin s' a' d' =>
        have e2 : s = s' := he
        subst e2
        exact fit_bin base A s a d a' d' bl u v w h0 hA hu hv
          (fun bl u v w h1 h2 h3 => fit_calls base A a a' bl u v w hx.2.1 ht.2.1 (fun x hx => hs x (by simp [Tm.flat, hx])) (by simp [Tm.flat] at hl; omega) h1 h2 h3)
          (fun bl u v w h1 h2 h3 => fit_calls base A d d' bl u v w hx.2.2 ht.2.2 (fun x hx => hs x (by simp [Tm.flat, hx])) (by simp [Tm.flat] at hl; omega) h1 h2 h3)
    · exact fit_clash base A _ t bl u v w h0 hx ht he hu hv

end Go.Proofs.Ytepddehodmljeaa
