/- Fitting: walks of With, Fit and of its reference. -/
import Derived.StillTailTactics
import Derived.Outline
import Derived.Test.YtepddehodmljeaaG2
import Derived.Test.YtepddehodmljeaaG1
namespace Go.Proofs.Ytepddehodmljeaa
open Go.RowKit Go.Maps

/-- The array in block A notes what variables become. -/
def ArrIs (base A : Nat) (w : World) (bl : Bl) : Prop :=
  ∃ xs, w.ownsRow base 180 1 (.slice (some ⟨A, 0, none⟩) 8 8) 8 xs ∧
    ∀ v : Nat, v < 8 → (lk bl (-1 - (v : Int)) = none ∧ xs[v]? = some (.pointer none)) ∨ (∃ y p, lk bl (-1 - (v : Int)) = some y.flat ∧ y.flat.length ≤ 1000 ∧ xs[v]? = some p ∧ IsTree (fun b => b ≠ A) w y p)

theorem ArrIs.lt {base A : Nat} {w : World} {bl : Bl} (h : ArrIs base A w bl) : base ≤ A ∧ A < w.heap.size := by
  obtain ⟨xs, h1, -⟩ := h; exact h1.lt A rfl
theorem ArrIs.keep {base A : Nat} {w w' : World} {bl : Bl} (h : ArrIs base A w bl) (hb : Below w.heap.size w w') : ArrIs base A w' bl := by
  have hl := h.lt
  obtain ⟨xs, h1, h2⟩ := h
  refine ⟨xs, ownsRow_keep h1 fun k hk => hb.block k (h1.lt k hk).2, fun v hv => ?_⟩
  rcases h2 v hv with h3 | ⟨y, p, h3, h4, h5, h6⟩
  · exact .inl h3
  · exact .inr ⟨y, p, h3, h4, h5, h6.below hb⟩
theorem ArrIs.at {base A : Nat} {w : World} {bl : Bl} (h : ArrIs base A w bl) {v : Nat} (hv : v < 8) :
    (lk bl (-1 - (v : Int)) = none ∧ w.cell? ⟨A, v, none⟩ = some (.pointer none)) ∨ (∃ y p, lk bl (-1 - (v : Int)) = some y.flat ∧ y.flat.length ≤ 1000 ∧ w.cell? ⟨A, v, none⟩ = some p ∧ IsTree (fun b => b ≠ A) w y p) := by
  obtain ⟨xs, h1, h2⟩ := h
  rcases h2 v hv with ⟨h3, h4⟩ | ⟨y, p, h3, h4, h5, h6⟩
  · exact .inl ⟨h3, by rw [h1.cellAt v (by omega)]; exact h4⟩
  · exact .inr ⟨y, p, h3, h4, by rw [h1.cellAt v (by omega)]; exact h5, h6⟩

/-- A tree's first cell. -/
theorem tree_box {S : Blk} {w : World} {x : Tm} {v : Value} (h : IsTree S w x v) : ∃ B, v = .pointer (some ⟨B, 0, none⟩) ∧ B < w.heap.size ∧ w.cell? ⟨B, 0, none⟩ = some (.int .i64 x.sg) := by
  cases x with
  | leaf s => obtain ⟨B, h, -, h2, h3, _⟩ := h; exact ⟨B, h, h2, h3⟩
  | un s a => obtain ⟨B, _, _, _, h, -, h2, h3, _⟩ := h; exact ⟨B, h, h2, h3⟩
  | bin s a b => obtain ⟨B, _, _, _, _, h, -, h2, h3, _⟩ := h; exact ⟨B, h, h2, h3⟩

/-- How fit ends. -/
def FitPost (base A : Nat) (w : World) (r : Option Bl) (e : Ending) (w' : World) : Prop :=
  e = .returned (.bool r.isSome) ∧ (∀ bl', r = some bl' → ArrIs base A w' bl') ∧ Keeps (fun b => b = A) w w'

theorem fit_var_eq {s : Int} (hs : s < 0) (t : Tm) (bl : Bl) : fitM (.leaf s) t bl = bindV bl s t.flat := by cases t <;> exact if_pos hs

set_option maxRecDepth 100000 in
set_option maxHeartbeats 1000000 in
theorem fit_var (base A : Nat) (s : Int) (t : Tm) (bl : Bl) (u v : Value) (w : World) (hs : s < 0) (hs8 : -8 ≤ s) (hl : t.flat.length ≤ 1000) (hA : ArrIs base A w bl) (hu : IsTree (fun b => b ≠ A) w (.leaf s) u) (hv : IsTree (fun b => b ≠ A) w t v) :
    Calls Try.prog 169 #[u, v, .pointer (some ⟨A, 0, none⟩)] w (FitPost base A w (fitM (.leaf s) t bl)) := by
  obtain ⟨B, rfl, -, hBl, hc0, hc1⟩ := hu
  obtain ⟨C, rfl⟩ := tree_ptr hv
  have hAl := hA.lt
  have hv8 : (-s).toNat - 1 < 8 := by omega
  have hvi : -1 - (((-s).toNat - 1 : Nat) : Int) = s := by omega
  rcases hA.at hv8 with ⟨h1, h2⟩ | ⟨y, p, h1, h2, h3, h4⟩
  · rw [hvi] at h1
    have hr : Hid (fitM (.leaf s) t bl = some (bl ++ [(s, t.flat)])) := by rw [Hid, fit_var_eq hs, bindV, h1]
    have hN := Lib.hid h1
    clear h1
    obtain ⟨i155, hi, hz, hsz, hby⟩ := info_parts Try.inf155
    obtain ⟨xs, k1, k2⟩ := hA
    have K1 := Lib.hid k1
    have K2 := Lib.hid k2
    have HV := Lib.hid hv
    have HI := Lib.hid hvi
    clear k1 k2 hv hvi
    go_enter Try.func169, Try.ntmps169
    go_wp2_with ((with_reducible show wpList _ _ _ (Oper.mk none (Op.store _ _ _) _ _ _ _ :: _) _ _); refine store_own _ _ 155 rfl rfl rfl i155 hi hsz base 180 A ((-s).toNat - 1) 8 8 _ rfl K1.out ?d2 rfl ?_; rotate_left 1; intro w3 hR3 hG3 hz3)
    case d2 => exact hv8
    go_ret
    rw [hr.out]
    refine ⟨rfl, fun bl' hb => ?_, ⟨hG3.os, hG3.tape, hG3.output, hG3.size, fun k hk hm => hG3.block k hk fun e => hm (by cases e; rfl)⟩⟩
    cases hb
    refine ⟨_, hR3, fun j hj => ?_⟩
    have hsk : Sok (fun b => b ≠ A) (fun b => b ≠ A) w w3 := ⟨hG3.size, fun b hb hl => ⟨hb, hG3.block b hl fun e => hb (by cases e; rfl)⟩⟩
    have hxl : xs.length = 8 := by have := K1.out.1; omega
    by_cases hj2 : j = (-s).toNat - 1
    · subst hj2
      rw [HI.out]
      exact .inr ⟨t, _, lk_new hN.out, hl, by rw [List.getElem?_set_self (by omega)]; rfl, HV.out.mono hsk⟩
    · rw [lk_other (by omega), List.getElem?_set_ne (fun e => hj2 e.symm)]
      rcases K2.out j hj with h3 | ⟨y, p, h3, h4, h5, h6⟩
      · exact .inl h3
      · exact .inr ⟨y, p, h3, h4, h5, h6.mono hsk⟩
  · rw [hvi] at h1
    have hr : Hid (fitM (.leaf s) t bl = if y.flat = t.flat then some bl else none) := by rw [Hid, fit_var_eq hs, bindV, h1]
    obtain ⟨D, rfl⟩ := tree_ptr h4
    have hf1 := Lib.hid (flat_calls y _ w h2 h4.any)
    have hf2 := Lib.hid fun W (hb : Below w.heap.size w W) => flat_calls t _ W hl (hv.any.below hb)
    have HA := Lib.hid fun W (hb : Below w.heap.size w W) => hA.keep hb
    clear h1 hA h4 hv hl hvi
    go_enter Try.func169, Try.ntmps169
    go_wp2_with fail
    refine hf1.out.mono ?_
    rintro e w1 ⟨a, rfl, ha, hB1⟩
    go_wp2_with fail
    refine (hf2.out w1 hB1).mono ?_
    rintro e w2 ⟨b, rfl, hb, hB2⟩
    have ha2 := Lib.hid (ha.any.below hB2)
    have hb2 := Lib.hid hb.any
    clear ha hb
    go_wp2_with fail
    refine (SameTerms_calls _ _ _ _ w2 ha2.out hb2.out).mono ?_
    rintro e w3 ⟨rfl, n, rfl⟩
    go_wp2_with fail
    go_ret
    have hB3 := (ext_trans hB1 hB2).trans (below_drewN _ w2 n)
    rw [hr.out]
    refine ⟨?_, fun bl' hb => ?_, .of_below hB3⟩
    · by_cases h : y.flat = t.flat <;> simp [h]
    · split at hb
      · cases hb; exact HA.out _ hB3
      · cases hb

set_option maxRecDepth 100000 in
theorem fit_clash (base A : Nat) (x t : Tm) (bl : Bl) (u v : Value) (w : World) (h0 : 0 ≤ x.sg) (hx : x.ok) (ht : t.ok) (hne : x.sg ≠ t.sg) (hu : IsTree (fun b => b ≠ A) w x u) (hv : IsTree (fun b => b ≠ A) w t v) :
    Calls Try.prog 169 #[u, v, .pointer (some ⟨A, 0, none⟩)] w (FitPost base A w (fitM x t bl)) := by
  have hr : Hid (fitM x t bl = none) := fitM_clash h0 hx ht hne bl
  obtain ⟨B, rfl, hBl, hc0⟩ := tree_box hu
  obtain ⟨C, rfl, hCl, hd0⟩ := tree_box hv
  have hne' : (x.sg != t.sg) = true := by simpa using hne
  clear hne hu hv
  go_enter Try.func169, Try.ntmps169
  go_wp2_with fail
  go_quiet (fail)
  go_wp2_with fail
  go_ret
  rw [hr.out]
  exact ⟨rfl, (fun _ h => by cases h), .of_below (below_drewN _ _ _)⟩

set_option maxRecDepth 100000 in
theorem fit_leaf (base A : Nat) (s : Int) (t : Tm) (bl : Bl) (u v : Value) (w : World) (h0 : 0 ≤ s) (he : s = t.sg) (hA : ArrIs base A w bl) (hu : IsTree (fun b => b ≠ A) w (.leaf s) u) (hv : IsTree (fun b => b ≠ A) w t v) :
    Calls Try.prog 169 #[u, v, .pointer (some ⟨A, 0, none⟩)] w (FitPost base A w (fitM (.leaf s) t bl)) := by
  have hr : Hid (fitM (.leaf s) t bl = some bl) := by
    have h1 : ¬ s < 0 := by omega
    cases t <;> (show (if s < 0 then _ else if s = _ then _ else _) = _) <;> rw [if_neg h1, if_pos he]
  obtain ⟨B, rfl, -, hBl, hc0, hc1⟩ := hu
  obtain ⟨C, rfl, hCl, hd0⟩ := tree_box hv
  rw [← he] at hd0
  have hk := Lib.hid fun W (hb : Below w.heap.size w W) => hA.keep hb
  clear hv hA
  go_enter Try.func169, Try.ntmps169
  go_wp2_with fail
  go_quiet (fail)
  go_wp2_with fail
  refine wp_loop_rounds 1 ?_
  rw [rounds_succ]
  go_wp2_with fail
  go_ret
  rw [hr.out]
  exact ⟨rfl, (fun _ h => by cases h; exact hk.out _ (below_drewN _ _ _)), .of_below (below_drewN _ _ _)⟩

set_option maxRecDepth 100000 in
set_option maxHeartbeats 1000000 in
theorem fit_un (base A : Nat) (s : Int) (a a' : Tm) (bl : Bl) (u v : Value) (w : World) (h0 : 0 ≤ s) (hA : ArrIs base A w bl) (hu : IsTree (fun b => b ≠ A) w (.un s a) u) (hv : IsTree (fun b => b ≠ A) w (.un s a') v)
    (ih : ∀ (bl : Bl) (u v : Value) (w : World), ArrIs base A w bl → IsTree (fun b => b ≠ A) w a u → IsTree (fun b => b ≠ A) w a' v → Calls Try.prog 169 #[u, v, .pointer (some ⟨A, 0, none⟩)] w (FitPost base A w (fitM a a' bl))) :
    Calls Try.prog 169 #[u, v, .pointer (some ⟨A, 0, none⟩)] w (FitPost base A w (fitM (.un s a) (.un s a') bl)) := by
  have hr : Hid (fitM (.un s a) (.un s a') bl = fitM a a' bl) := if_pos rfl
  obtain ⟨B, g, c, x, rfl, hBA, hBl, hc0, hc1, hgA, hgl, hcx, ht⟩ := hu
  obtain ⟨B', g', c', x', rfl, hBA', hBl', hd0, hd1, hgA', hgl', hdx, ht'⟩ := hv
  have hI := Lib.hid fun W (hb : Below w.heap.size w W) => ih bl x x' W (hA.keep hb) (ht.below hb) (ht'.below hb)
  clear ih hA ht ht'
  go_enter Try.func169, Try.ntmps169
  go_wp2_with fail
  go_quiet (fail)
  obtain ⟨w1, hw1⟩ : ∃ w1, w1 = w.drewN nq := ⟨_, rfl⟩
  have e1 : w1.cell? ⟨B, 1, none⟩ = some (.slice (some ⟨g, 0, none⟩) 1 c) := by rw [hw1]; exact hc1
  have e2 : w1.cell? ⟨B', 1, none⟩ = some (.slice (some ⟨g', 0, none⟩) 1 c') := by rw [hw1]; exact hd1
  have e3 : w1.cell? ⟨g, 0, none⟩ = some x := by rw [hw1]; exact hcx
  have e4 : w1.cell? ⟨g', 0, none⟩ = some x' := by rw [hw1]; exact hdx
  have hB1 : Hid (Below w.heap.size w w1) := by rw [hw1]; exact below_drewN _ _ _
  rw [← hw1]
  clear hw1 hc0 hc1 hcx hd0 hd1 hdx
  go_wp2_with fail
  refine wp_loop_rounds 2 ?_
  rw [rounds_succ]
  go_wp2_with fail
  go_still_tail 15, (by kernel_rfl)
  change wpList _ _ _ _ _ (w1.drewN 1)
  have hB2 := Lib.hid (hB1.out.trans (below_drewN _ w1 1))
  have e5 : (w1.drewN 1).cell? ⟨B, 1, none⟩ = some (.slice (some ⟨g, 0, none⟩) 1 c) := e1
  have hcall := Lib.hid (hI.out _ hB2.out)
  have hBl2 : B < (w1.drewN 1).heap.size := Nat.lt_of_lt_of_le hBl hB2.out.size
  clear hI e1 e2 e3 e4 hB1
  generalize w1.drewN 1 = w2 at *
  clear w1
  have hB0 := Lib.hid (Keeps.of_below (M := fun b => b = A) hB2.out)
  cases hm : fitM a a' bl with
  | none =>
    rw [hm] at hcall hr
    clear hm
    go_wp2_with fail
    refine hcall.out.mono ?_
    rintro e w3 ⟨rfl, -, hK3⟩
    go_wp2_with fail
    go_ret
    rw [hr.out]
    exact ⟨rfl, (fun _ h => by cases h), hB0.out.trans hK3⟩
  | some bm =>
    rw [hm] at hcall hr
    clear hm
    go_wp2_with fail
    refine hcall.out.mono ?_
    rintro e w3 ⟨rfl, hA3, hK3⟩
    have e6 : w3.cell? ⟨B, 1, none⟩ = some (.slice (some ⟨g, 0, none⟩) 1 c) := (World.cell?_of_block (w := w2) (hK3.block B hBl2 hBA)).trans e5
    have hA4 := Lib.hid hA3
    have hK4 := Lib.hid hK3
    clear hA3 hK3 e5 hcall
    go_wp2_with fail
    rw [rounds_succ]
    go_wp2_with fail
    go_ret
    rw [hr.out]
    exact ⟨rfl, hA4.out, hB0.out.trans hK4.out⟩

set_option maxRecDepth 100000 in
set_option maxHeartbeats 1000000 in
theorem fit_bin (base A : Nat) (s : Int) (a d a' d' : Tm) (bl : Bl) (u v : Value) (w : World) (h0 : 0 ≤ s) (hA : ArrIs base A w bl) (hu : IsTree (fun b => b ≠ A) w (.bin s a d) u) (hv : IsTree (fun b => b ≠ A) w (.bin s a' d') v)
    (ih : ∀ (bl : Bl) (u v : Value) (w : World), ArrIs base A w bl → IsTree (fun b => b ≠ A) w a u → IsTree (fun b => b ≠ A) w a' v → Calls Try.prog 169 #[u, v, .pointer (some ⟨A, 0, none⟩)] w (FitPost base A w (fitM a a' bl)))
    (ih' : ∀ (bl : Bl) (u v : Value) (w : World), ArrIs base A w bl → IsTree (fun b => b ≠ A) w d u → IsTree (fun b => b ≠ A) w d' v → Calls Try.prog 169 #[u, v, .pointer (some ⟨A, 0, none⟩)] w (FitPost base A w (fitM d d' bl))) :
    Calls Try.prog 169 #[u, v, .pointer (some ⟨A, 0, none⟩)] w (FitPost base A w (fitM (.bin s a d) (.bin s a' d') bl)) := by
  have hr : Hid (fitM (.bin s a d) (.bin s a' d') bl = (fitM a a' bl).bind fun b => fitM d d' b) := if_pos rfl
  obtain ⟨B, g, c, x, y, rfl, hBA, hBl, hc0, hc1, hgA, hgl, hcx, hcy, ht, hty⟩ := hu
  obtain ⟨B', g', c', x', y', rfl, hBA', hBl', hd0, hd1, hgA', hgl', hdx, hdy, ht', hty'⟩ := hv
  have hI := Lib.hid fun W (hb : Below w.heap.size w W) => ih bl x x' W (hA.keep hb) (ht.below hb) (ht'.below hb)
  have hI2 := Lib.hid fun W bm (hb : Keeps (fun b => b = A) w W) (hA : ArrIs base A W bm) => ih' bm y y' W hA (hty.mono (hb.sok fun _ _ h1 h2 => h1 h2)) (hty'.mono (hb.sok fun _ _ h1 h2 => h1 h2))
  clear ih ih' hA ht ht' hty hty'
  go_enter Try.func169, Try.ntmps169
  go_wp2_with fail
  go_quiet (fail)
  obtain ⟨w1, hw1⟩ : ∃ w1, w1 = w.drewN nq := ⟨_, rfl⟩
  have e1 : w1.cell? ⟨B, 1, none⟩ = some (.slice (some ⟨g, 0, none⟩) 2 c) := by rw [hw1]; exact hc1
  have e2 : w1.cell? ⟨B', 1, none⟩ = some (.slice (some ⟨g', 0, none⟩) 2 c') := by rw [hw1]; exact hd1
  have e3 : w1.cell? ⟨g, 0, none⟩ = some x := by rw [hw1]; exact hcx
  have e4 : w1.cell? ⟨g', 0, none⟩ = some x' := by rw [hw1]; exact hdx
  have hB1 : Hid (Below w.heap.size w w1) := by rw [hw1]; exact below_drewN _ _ _
  have HC := Lib.hid (show w.cell? ⟨B, 1, none⟩ = some (.slice (some ⟨g, 0, none⟩) 2 c) ∧ w.cell? ⟨B', 1, none⟩ = some (.slice (some ⟨g', 0, none⟩) 2 c') ∧ w.cell? ⟨g, 1, none⟩ = some y ∧ w.cell? ⟨g', 1, none⟩ = some y' from ⟨hc1, hd1, hcy, hdy⟩)
  rw [← hw1]
  clear hw1 hc0 hc1 hcx hd0 hd1 hdx hcy hdy
  go_wp2_with fail
  refine wp_loop_rounds 3 ?_
  rw [rounds_succ]
  go_wp2_with fail
  go_still_tail 15, (by kernel_rfl)
  change wpList _ _ _ _ _ (w1.drewN 1)
  have hB2 := Lib.hid (hB1.out.trans (below_drewN _ w1 1))
  have hcall := Lib.hid (hI.out _ hB2.out)
  have hBl2 : B < (w1.drewN 1).heap.size := Nat.lt_of_lt_of_le hBl hB2.out.size
  clear hI e1 e2 e3 e4 hB1
  generalize w1.drewN 1 = w2 at *
  clear w1
  have hB0 := Lib.hid (Keeps.of_below (M := fun b => b = A) hB2.out)
  cases hm : fitM a a' bl with
  | none =>
    rw [hm] at hcall hr
    clear hm
    go_wp2_with fail
    refine hcall.out.mono ?_
    rintro e w3 ⟨rfl, -, hK3⟩
    go_wp2_with fail
    go_ret
    rw [hr.out]
    exact ⟨rfl, (fun _ h => by cases h), hB0.out.trans hK3⟩
  | some bm =>
    rw [hm] at hcall hr
    clear hm
    go_wp2_with fail
    refine hcall.out.mono ?_
    rintro e w3 ⟨rfl, hA3, hK3⟩
    have hK4 := Lib.hid (hB0.out.trans hK3)
    have hA4 := Lib.hid (hA3 bm rfl)
    have e1 : w3.cell? ⟨B, 1, none⟩ = some (.slice (some ⟨g, 0, none⟩) 2 c) := (World.cell?_of_block (w := w) (hK4.out.block B hBl hBA)).trans HC.out.1
    have e2 : w3.cell? ⟨B', 1, none⟩ = some (.slice (some ⟨g', 0, none⟩) 2 c') := (World.cell?_of_block (w := w) (hK4.out.block B' hBl' hBA')).trans HC.out.2.1
    have e3 : w3.cell? ⟨g, 1, none⟩ = some y := (World.cell?_of_block (w := w) (hK4.out.block g hgl hgA)).trans HC.out.2.2.1
    have e4 : w3.cell? ⟨g', 1, none⟩ = some y' := (World.cell?_of_block (w := w) (hK4.out.block g' hgl' hgA')).trans HC.out.2.2.2
    clear hA3 hK3 hcall
    go_wp2_with fail
    rw [rounds_succ]
    go_wp2_with fail
    go_still_tail 15, (by kernel_rfl)
    change wpList _ _ _ _ _ (w3.drewN 1)
    have hK5 : Hid (Keeps (fun b => b = A) w (w3.drewN 1)) := hK4.out.trans (Keeps.of_below (below_drewN _ w3 1))
    have hcall := Lib.hid (hI2.out _ bm hK5.out (hA4.out.keep (below_drewN _ w3 1)))
    have hBl3 : B < (w3.drewN 1).heap.size := Nat.lt_of_lt_of_le hBl hK5.out.size
    clear hI2 e1 e2 e3 e4 hK4 hA4
    generalize w3.drewN 1 = w4 at *
    clear w3
    cases hm : fitM d d' bm with
    | none =>
      rw [hm] at hcall
      have hr2 : Hid (fitM (.bin s a d) (.bin s a' d') bl = none) := hr.out.trans hm
      clear hm
      go_wp2_with fail
      refine hcall.out.mono ?_
      rintro e w5 ⟨rfl, -, hK3⟩
      go_wp2_with fail
      go_ret
      rw [hr2.out]
      exact ⟨rfl, (fun _ h => by cases h), hK5.out.trans hK3⟩
    | some bn =>
      rw [hm] at hcall
      have hr2 : Hid (fitM (.bin s a d) (.bin s a' d') bl = some bn) := hr.out.trans hm
      clear hm
      go_wp2_with fail
      refine hcall.out.mono ?_
      rintro e w5 ⟨rfl, hA3, hK3⟩
      have hK6 := Lib.hid (hK5.out.trans hK3)
      have e6 : w5.cell? ⟨B, 1, none⟩ = some (.slice (some ⟨g, 0, none⟩) 2 c) := (World.cell?_of_block (w := w) (hK6.out.block B hBl hBA)).trans HC.out.1
      have hA6 := Lib.hid hA3
      clear hA3 hK3 hcall
      go_wp2_with fail
      rw [rounds_succ]
      go_wp2_with fail
      go_ret
      rw [hr2.out]
      exact ⟨rfl, hA6.out, hK6.out⟩

/-- fit, of right trees. -/
theorem fit_calls (base A : Nat) : ∀ (x t : Tm) (bl : Bl) (u v : Value) (w : World), x.ok → t.ok → (∀ s ∈ x.flat, -8 ≤ s) → t.flat.length ≤ 1000 → ArrIs base A w bl → IsTree (fun b => b ≠ A) w x u → IsTree (fun b => b ≠ A) w t v →
    Calls Try.prog 169 #[u, v, .pointer (some ⟨A, 0, none⟩)] w (FitPost base A w (fitM x t bl))
  | .leaf s, t, bl, u, v, w, hx, ht, hs, hl, hA, hu, hv => by
    by_cases h0 : s < 0
    · exact fit_var base A s t bl u v w h0 (hs s (by simp [Tm.flat])) hl hA hu hv
    · by_cases he : s = t.sg
      · exact fit_leaf base A s t bl u v w (by omega) he hA hu hv
      · exact fit_clash base A _ t bl u v w (Int.not_lt.1 h0) hx ht he hu hv
  | .un s a, t, bl, u, v, w, hx, ht, hs, hl, hA, hu, hv => by
    have h0 : 0 ≤ s := by have := ar_pos (s := s) (by rw [hx.1]; decide); omega
    by_cases he : s = t.sg
    · cases t with
      | leaf s' => have e : ar s' = 0 := ht; have e2 : s = s' := he; rw [← e2, hx.1] at e; cases e
      | bin s' a' d' => have e := ht.1; have e2 : s = s' := he; rw [← e2, hx.1] at e; cases e
      | un s' a' =>
        have e2 : s = s' := he
        subst e2
        exact fit_un base A s a a' bl u v w h0 hA hu hv fun bl u v w h1 h2 h3 => fit_calls base A a a' bl u v w hx.2 ht.2 (fun x hx => hs x (by simp [Tm.flat, hx])) (by simp [Tm.flat] at hl; omega) h1 h2 h3
    · exact fit_clash base A _ t bl u v w h0 hx ht he hu hv
  | .bin s a d, t, bl, u, v, w, hx, ht, hs, hl, hA, hu, hv => by
    have h0 : 0 ≤ s := by have := ar_pos (s := s) (by rw [hx.1]; decide); omega
    by_cases he : s = t.sg
    · cases t with
      | leaf s' => have e : ar s' = 0 := ht; have e2 : s = s' := he; rw [← e2, hx.1] at e; cases e
      | un s' a' => have e := ht.1; have e2 : s = s' := he; rw [← e2, hx.1] at e; cases e
      | bin s' a' d' =>
        have e2 : s = s' := he
        subst e2
        exact fit_bin base A s a d a' d' bl u v w h0 hA hu hv
          (fun bl u v w h1 h2 h3 => fit_calls base A a a' bl u v w hx.2.1 ht.2.1 (fun x hx => hs x (by simp [Tm.flat, hx])) (by simp [Tm.flat] at hl; omega) h1 h2 h3)
          (fun bl u v w h1 h2 h3 => fit_calls base A d d' bl u v w hx.2.2 ht.2.2 (fun x hx => hs x (by simp [Tm.flat, hx])) (by simp [Tm.flat] at hl; omega) h1 h2 h3)
    · exact fit_clash base A _ t bl u v w h0 hx ht he hu hv

end Go.Proofs.Ytepddehodmljeaa

namespace Go.Proofs.Ytepddehodmljeaa
open Go.RowKit Go.Maps

/-- What is handed out, the first k of it. -/
def outK (bl : Bl) (k : Nat) : List (List Int) := (List.range 8).map fun j : Nat => if j < k then (lk bl (-1 - (j : Int))).getD [-1 - (j : Int)] else [-1 - (j : Int)]
theorem outK_len (bl : Bl) (k : Nat) : (outK bl k).length = 8 := by simp [outK]
theorem outK_zero (bl : Bl) : outK bl 0 = noneS := by simp only [outK, Nat.not_lt_zero, if_false]; decide
theorem outK_all (bl : Bl) : outK bl 8 = outS bl := by
  unfold outK outS
  refine List.map_congr_left fun j hj => ?_
  rw [if_pos (List.mem_range.1 hj)]
theorem outK_none {bl : Bl} {k : Nat} (h : lk bl (-1 - (k : Int)) = none) : outK bl (k + 1) = outK bl k := by
  unfold outK
  refine List.map_congr_left fun j _ => ?_
  by_cases h1 : j < k
  · rw [if_pos h1, if_pos (by omega)]
  · by_cases h2 : j = k
    · subst h2; rw [if_pos (by omega), if_neg h1, h]; rfl
    · rw [if_neg h1, if_neg (by omega)]
theorem outK_some {bl : Bl} {k : Nat} {x : List Int} (h : lk bl (-1 - (k : Int)) = some x) : (outK bl k).set k x = outK bl (k + 1) := by
  apply List.ext_getElem
  · rw [List.length_set, outK_len, outK_len]
  · intro j h1 h2
    rw [List.getElem_set]
    simp only [outK, List.getElem_map, List.getElem_range]
    by_cases hj : k = j
    · subst hj; rw [if_pos rfl, if_pos (by omega), h]; rfl
    · rw [if_neg hj]
      by_cases h3 : j < k
      · rw [if_pos h3, if_pos (by omega)]
      · rw [if_neg h3, if_neg (by omega)]

theorem ArrIs.made (w : World) : ArrIs w.heap.size w.heap.size (w.alloc (.cells #[.pointer none, .pointer none, .pointer none, .pointer none, .pointer none, .pointer none, .pointer none, .pointer none] 180)) [] :=
  ⟨List.replicate 8 (.pointer none), lit_own w w.heap.size (List.replicate 8 (.pointer none)) 180 (Nat.le_refl _) (by simp), fun v hv => .inl ⟨rfl, by rw [List.getElem?_replicate, if_pos hv]⟩⟩

theorem signs_flat {x : Tm} {t : List Int} (h : x.flat = t) (hs : Signs t) : ∀ s ∈ x.flat, -8 ≤ s := fun s hsx => (hs s (h ▸ hsx)).1

set_option maxRecDepth 100000 in
set_option maxHeartbeats 1000000 in
theorem fitted_calls (p t : List Int) (hp : chk p = 0) (ht : chk t = 0) (u v : Value) (w : World) (hu : IsInts Any w u p) (hv : IsInts Any w v t) :
    Calls Try.prog 110 #[u, v] w fun e w' => ∃ x, e = .returned (.tuple #[x, .bool (fitL p t).isSome]) ∧ IsTerms (Fr w.heap.size) w' x ((fitL p t).getD []) ∧ Below w.heap.size w w' := by
  obtain ⟨i24, hi, hz, hsz, hby⟩ := info_parts Try.inf24
  obtain ⟨hxo, hxf⟩ := tm_chk hp
  obtain ⟨hto, htf⟩ := tm_chk ht
  have hl1 := len_of_chk hp
  have hl2 := len_of_chk ht
  obtain ⟨ua, uc, rfl⟩ := hu.isSlice
  obtain ⟨va, vc, rfl⟩ := hv.isSlice
  have c1 := Lib.hid (treeOf_calls (tmOf p) hxo _ _ (by rw [hxf]; exact hu.below (below_alloc w (.cells #[.pointer none, .pointer none, .pointer none, .pointer none, .pointer none, .pointer none, .pointer none, .pointer none] 180))))
  have c2 := Lib.hid fun W (hb : Below w.heap.size w W) => treeOf_calls (tmOf t) hto (.slice va t.length vc) W (by rw [htf]; exact hv.below hb)
  have c3 := Lib.hid fun W u v (h1 : ArrIs w.heap.size w.heap.size W []) (h2 : IsTree (fun b => b ≠ w.heap.size) W (tmOf p) u) (h3 : IsTree (fun b => b ≠ w.heap.size) W (tmOf t) v) =>
    fit_calls w.heap.size w.heap.size (tmOf p) (tmOf t) [] u v W hxo hto (signs_flat hxf (signs_of_chk hp)) (by rw [htf]; omega) h1 h2 h3
  have hA0 := Lib.hid (ArrIs.made w)
  go_enter Try.func110, Try.ntmps110
  go_wp2_with fail
  refine c1.out.mono ?_
  rintro e w1 ⟨y1, rfl, hy1, hB1⟩
  go_wp2_with fail
  refine (c2.out w1 (ext_trans (below_alloc w _) hB1)).mono ?_
  rintro e w2 ⟨y2, rfl, hy2, hB2⟩
  go_wp2_with fail
  have hA2 := (hA0.out.keep hB1).keep hB2
  have hz1 : (w.alloc (.cells #[.pointer none, .pointer none, .pointer none, .pointer none, .pointer none, .pointer none, .pointer none, .pointer none] 180)).heap.size = w.heap.size + 1 := by simp
  have hz2 := hB1.size
  rw [hz1] at hz2 hy1
  have hBw := Lib.hid (ext_trans (ext_trans (below_alloc w _) hB1) hB2)
  have hcall := Lib.hid (c3.out w2 y1 y2 hA2 ((hy1.below hB2).mono (.weak fun b hb => by have : w.heap.size + 1 ≤ b := hb; omega)) (hy2.mono (.weak fun b hb => by have : w1.heap.size ≤ b := hb; omega)))
  clear c1 c2 c3 hA0 hy1 hy2 hz1 hB1 hB2 hA2 hu hv hxo hxf hto htf
  cases hf : fitM (tmOf p) (tmOf t) [] with
  | none =>
    have hr : Hid (fitL p t = none) := by rw [Hid, fitL, hf]; rfl
    rw [hf] at hcall
    clear hf
    refine hcall.out.mono ?_
    rintro e w3 ⟨rfl, -, hK⟩
    go_wp2_with fail
    go_ret2
    rw [hr.out]
    exact ⟨_, rfl, .nil _ _, hBw.out.trans ⟨hK.os, hK.tape, hK.output, hK.size, fun k hk => hK.block k (by have := hBw.out.size; omega) (by omega)⟩⟩
  | some bl =>
    have hr : Hid (fitL p t = some (outS bl)) := by rw [Hid, fitL, hf]; rfl
    rw [hf] at hcall
    clear hf
    refine hcall.out.mono ?_
    rintro e w3 ⟨rfl, hA3, hK⟩
    have hB3 : Below w.heap.size w w3 := hBw.out.trans ⟨hK.os, hK.tape, hK.output, hK.size, fun k hk => hK.block k (by have := hBw.out.size; omega) (by omega)⟩
    replace hA3 := hA3 bl rfl
    clear hcall hK hBw
    go_wp2_with fail
    refine (NoneOf_calls w3).mono ?_
    rintro e w4 ⟨o, rfl, hO, hB4⟩
    have hA4 := hA3.keep hB4
    have hz4 := hB4.size
    have hz3 := hA3.lt.2
    obtain ⟨g, c, cur, rfl, hg, hgg, hcc⟩ := hO.at (by simp [noneS])
    have hl8 : noneS.length = 8 := rfl
    rw [hl8] at hO ⊢
    have hgl := lt_of_block hgg
    have hst : Hid (OwnRow w3.heap.size 24 1 TermR (Fr w3.heap.size) w4 (.slice (some ⟨g, 0, none⟩) 8 c) (outK bl 0) ∧ Below w3.heap.size w3 w4) := ⟨by rw [outK_zero]; exact hO, hB4⟩
    have HA3 := Lib.hid hA3
    have HB3 := Lib.hid hB3
    clear hO hA4 hB4 hA3 hB3 hgg hcc cur hl8
    go_wp2_with fail
    go_loopw [8] (fun i wr => ∃ k : Nat, k ≤ 8 ∧ i = .int .i64 k ∧ Hid (OwnRow w3.heap.size 24 1 TermR (Fr w3.heap.size) wr (.slice (some ⟨g, 0, none⟩) 8 c) (outK bl k) ∧ Below w3.heap.size w3 wr)) (fun i _ => 8 - (intOf i).toNat)
    case atStart => exact ⟨0, by omega, rfl, hst.out⟩
    case round =>
      clear hst
      obtain ⟨k, hk, rfl, hR⟩ := hrel
      by_cases hlt' : k < 8
      · obtain ⟨hO, hB⟩ := hR.out
        have hA := HA3.out.keep hB
        have hik : (k : Int) < 8 := by omega
        rcases hA.at hlt' with ⟨h1, h2⟩ | ⟨y, q, h1, h2, h3, h4⟩
        · have hN := Lib.hid (outK_none h1)
          clear h1 hO hA hB
          go_wp2_with fail
          go_roundw
          case rel => exact ⟨k + 1, by omega, by go_num, by rw [Hid, hN.out]; exact hR.out⟩
          case measure => simp [intOf]; omega
        · have hN := Lib.hid (outK_some h1)
          obtain ⟨D, rfl⟩ := tree_ptr h4
          have hcall := Lib.hid (flat_calls y _ wr h2 h4.any)
          have hgl2 := (hO.block g rfl).2
          have hO1 := Lib.hid hO
          clear h1 h2 h4 hO hA hB
          go_wp2_with fail
          refine hcall.out.mono ?_
          rintro e w5 ⟨z, rfl, hzz, hB5⟩
          obtain ⟨za, zc, rfl⟩ := hzz.isSlice
          have hs : Hid (TermR (Both' (Fr w3.heap.size) fun b => b ≠ g) w5 [.slice za y.flat.length zc] y.flat) := ⟨_, rfl, hzz.mono (.weak fun b hb => by
            have h1 : wr.heap.size ≤ b := hb
            have h2 := hR.out.2.size
            have h3 := (hR.out.1.block g rfl).1
            exact ⟨by show w3.heap.size ≤ b; omega, by omega⟩)⟩
          have hB6 := Lib.hid hB5
          have hO2 := Lib.hid (hO1.out.below TermR.ok hB5)
          have hkk : Hid (k < (outK bl k).length) := by rw [Hid, outK_len]; exact hlt'
          clear hzz hB5 hcall hO1
          go_wp2_with ((with_reducible show wpList _ _ _ (Oper.mk none (Op.store _ _ _) _ _ _ _ :: _) _ _); refine store_rows TermR.ok _ _ 24 rfl rfl rfl i24 hi hsz w3.heap.size 24 (Fr w3.heap.size) g k 8 c _ rfl hO2.out hkk.out y.flat hs.out rfl ?_; intro w7 hown7 hg7 hz7)
          go_roundw
          case rel =>
            have hB5 := hB6.out
            have hsz5 := hB5.size
            refine ⟨k + 1, by omega, by go_num, by rw [← hN.out]; exact hown7, ?_⟩
            exact (hR.out.2.trans (hB5.mono hR.out.2.size)).trans (below_of_grown hg7 (by have := hR.out.2.size; omega) fun j hj => by cases hj; exact (hR.out.1.block g rfl).1)
          case measure => simp [intOf]; omega
      · have : k = 8 := by omega
        subst this
        go_wp2_with fail
        go_ret2
        obtain ⟨hO, hB⟩ := hR.out
        rw [hr.out]
        rw [outK_all] at hO
        exact ⟨_, rfl, (hO.terms (by simp [outS_len])).mono TermR.ok (.weak fun b hb => by have : w3.heap.size ≤ b := hb; show w.heap.size ≤ b; omega), ext_trans HB3.out hB⟩

end Go.Proofs.Ytepddehodmljeaa

namespace Go.Proofs.Ytepddehodmljeaa
open Go.RowKit Go.Maps

/-- What Fit answers. -/
def fitT (p t : List Int) : List (List Int) := if chk2 p t = 0 then (fitL p t).getD [] else []
def fitB (p t : List Int) : Bool := if chk2 p t = 0 then (fitL p t).isSome else false
theorem chk2_zero {p t : List Int} (h : chk2 p t = 0) : chk p = 0 ∧ chk t = 0 := by
  unfold chk2 at h
  split at h
  · exact ⟨by assumption, h⟩
  · contradiction

theorem FitOf_calls (p t : List Int) (u v : Value) (w : World) (hu : IsInts Any w u p) (hv : IsInts Any w v t) :
    Calls Try.prog 47 #[u, v] w fun e w' => ∃ x, e = .returned (.tuple #[x, .bool (fitB p t), .int .i64 (chk2 p t)]) ∧ IsTerms (Fr w.heap.size) w' x (fitT p t) ∧ Below w.heap.size w w' := by
  have h1 := Lib.hid (twoErrors_calls p t u v w hu hv)
  by_cases h : chk2 p t = 0
  · have hr : Hid (fitT p t = (fitL p t).getD [] ∧ fitB p t = (fitL p t).isSome) := by rw [Hid, fitT, fitB, if_pos h, if_pos h]; exact ⟨rfl, rfl⟩
    have h2 := Lib.hid (fitted_calls p t (chk2_zero h).1 (chk2_zero h).2 u v w hu hv)
    have hh := Lib.hid h
    clear hu hv h
    go_enter Try.func47, Try.ntmps47
    go_wp2_with fail
    refine h1.out.mono ?_
    rintro e w' ⟨rfl, rfl⟩
    rw [hh.out]
    go_wp2_with fail
    refine h2.out.mono ?_
    rintro e w1 ⟨x, rfl, hx, hB⟩
    have hX := Lib.hid hx
    clear hx
    go_wp2_with fail
    go_ret3
    exact ⟨x, by rw [hr.out.2, hh.out]; rfl, by rw [hr.out.1]; exact hX.out, hB⟩
  · have hr : Hid (fitT p t = [] ∧ fitB p t = false) := by rw [Hid, fitT, fitB, if_neg h, if_neg h]; exact ⟨rfl, rfl⟩
    have h' : (chk2 p t != 0) = true := by simpa using h
    clear hu hv h
    go_enter Try.func47, Try.ntmps47
    go_wp2_with fail
    refine h1.out.mono ?_
    rintro e w' ⟨rfl, rfl⟩
    clear h1
    go_wp2_with fail
    go_ret3
    exact ⟨.slice none 0 0, by rw [hr.out.2]; rfl, by rw [hr.out.1]; exact .nil _ _, .refl _ _⟩

end Go.Proofs.Ytepddehodmljeaa

namespace Go.Proofs.Ytepddehodmljeaa
open Go.RowKit Go.Maps

/-- Terms one behind the other. -/
def flats (xs : List Tm) : List Int := (xs.map Tm.flat).flatten
theorem flats_cons (x : Tm) (xs : List Tm) : flats (x :: xs) = x.flat ++ flats xs := by simp [flats]
theorem flats_append (xs ys : List Tm) : flats (xs ++ ys) = flats xs ++ flats ys := by simp [flats]
theorem flat_parts (x : Tm) : x.flat = x.sg :: flats x.parts := by cases x <;> simp [Tm.flat, Tm.sg, Tm.parts, flats]
theorem flats_nil {xs : List Tm} (h : flats xs = []) : xs = [] := by
  cases xs with
  | nil => rfl
  | cons x xs => rw [flats_cons] at h; exact absurd (List.append_eq_nil_iff.1 h).1 (flat_ne x)

/-- The map's entries read as what was bound. -/
def BlIs (S : Blk) (w : World) : List (Value × Value) → Bl → Prop
  | [], [] => True
  | q :: l, e :: bl => q.1 = .int .i64 e.1 ∧ IsInts S w q.2 e.2 ∧ BlIs S w l bl
  | _, _ => False
theorem BlIs.mono {S S' : Blk} {w w' : World} (hk : Sok S S' w w') : ∀ {l : List (Value × Value)} {bl : Bl}, BlIs S w l bl → BlIs S' w' l bl
  | [], [], _ => trivial
  | _ :: _, _ :: _, ⟨h1, h2, h3⟩ => ⟨h1, h2.mono hk, h3.mono hk⟩
theorem BlIs.snoc {S : Blk} {w : World} {v : Int} {x : List Int} {u : Value} (hu : IsInts S w u x) : ∀ {l : List (Value × Value)} {bl : Bl}, BlIs S w l bl → BlIs S w (l ++ [(.int .i64 v, u)]) (bl ++ [(v, x)])
  | [], [], _ => ⟨rfl, hu, trivial⟩
  | _ :: _, _ :: _, ⟨h1, h2, h3⟩ => ⟨h1, h2, h3.snoc hu⟩
theorem BlIs.abs {S : Blk} {w : World} {v : Int} : ∀ {l : List (Value × Value)} {bl : Bl}, BlIs S w l bl → lk bl v = none → ∀ p ∈ l, p.1 ≠ .int .i64 v
  | [], [], _, _ => fun p hp => by cases hp
  | q :: l, (k, y) :: bl, ⟨h1, h2, h3⟩, h => by
    rw [lk] at h
    split at h
    · cases h
    · rename_i hk
      intro p hp
      rcases List.mem_cons.1 hp with rfl | hp
      · rw [h1]; intro e; cases e; exact hk rfl
      · exact h3.abs h p hp
theorem BlIs.pres {S : Blk} {w : World} {v : Int} {x : List Int} : ∀ {l : List (Value × Value)} {bl : Bl}, BlIs S w l bl → lk bl v = some x →
    ∃ l1 u l2, l = l1 ++ (.int .i64 v, u) :: l2 ∧ IsInts S w u x ∧ ∀ u', IsInts S w u' x → BlIs S w (l1 ++ (.int .i64 v, u') :: l2) bl
  | [], [], _, h => by cases h
  | (q, u) :: l, (k, y) :: bl, ⟨h1, h2, h3⟩, h => by
    rw [lk] at h
    split at h
    · rename_i hk
      subst hk
      cases h
      have h1' : q = .int .i64 k := h1
      subst h1'
      exact ⟨[], u, l, rfl, h2, fun u' hu => ⟨rfl, hu, h3⟩⟩
    · obtain ⟨l1, u0, l2, rfl, h4, h5⟩ := h3.pres h
      exact ⟨(q, u) :: l1, u0, l2, rfl, h4, fun u' hu => ⟨h1, h2, h5 u' hu⟩⟩

/-- Where With stands: what is still to be read of both, and what was bound. -/
def WithAt (p t : List Int) (i j : Nat) (bl : Bl) : Prop :=
  ∃ Ps Ts, p.drop i = flats Ps ∧ t.drop j = flats Ts ∧ i ≤ p.length ∧ j ≤ t.length ∧ (∀ x ∈ Ps, x.ok) ∧ (∀ x ∈ Ts, x.ok) ∧ fitS Ps Ts bl = fitM (tmOf p) (tmOf t) []

theorem WithAt.start {p t : List Int} (hp : chk p = 0) (ht : chk t = 0) : WithAt p t 0 0 [] := by
  obtain ⟨h1, h2⟩ := tm_chk hp
  obtain ⟨h3, h4⟩ := tm_chk ht
  refine ⟨[tmOf p], [tmOf t], by simp [flats, h2], by simp [flats, h4], by omega, by omega, by simpa using h1, by simpa using h3, ?_⟩
  show (fitM _ _ _).bind _ = _
  simp [fitS]
/-- One of both is read through. -/
theorem WithAt.done {p t : List Int} {i j : Nat} {bl : Bl} (h : WithAt p t i j bl) (hd : ¬ (i < p.length ∧ j < t.length)) : fitM (tmOf p) (tmOf t) [] = some bl := by
  obtain ⟨Ps, Ts, h1, h2, h3, h4, h5, h6, h7⟩ := h
  rw [← h7]
  by_cases hi : i < p.length
  · have : t.drop j = [] := List.drop_of_length_le (by omega)
    rw [this] at h2
    obtain rfl := flats_nil h2.symm
    cases Ps <;> rfl
  · have : p.drop i = [] := List.drop_of_length_le (by omega)
    rw [this] at h1
    obtain rfl := flats_nil h1.symm
    rfl
/-- The heads of what is still to be read. -/
theorem WithAt.heads {p t : List Int} {i j : Nat} {bl : Bl} (h : WithAt p t i j bl) (hi : i < p.length) (hj : j < t.length) :
    ∃ P T Ps Ts, p.drop i = P.flat ++ flats Ps ∧ t.drop j = T.flat ++ flats Ts ∧ P.ok ∧ T.ok ∧ (∀ x ∈ Ps, x.ok) ∧ (∀ x ∈ Ts, x.ok) ∧ fitS (P :: Ps) (T :: Ts) bl = fitM (tmOf p) (tmOf t) [] ∧ nth p i = P.sg ∧ nth t j = T.sg := by
  obtain ⟨Ps, Ts, h1, h2, h3, h4, h5, h6, h7⟩ := h
  cases Ps with
  | nil => have := congrArg List.length h1; simp [flats] at this; omega
  | cons P Ps =>
    cases Ts with
    | nil => have := congrArg List.length h2; simp [flats] at this; omega
    | cons T Ts =>
      rw [flats_cons] at h1 h2
      refine ⟨P, T, Ps, Ts, h1, h2, h5 P (by simp), h6 T (by simp), fun x hx => h5 x (by simp [hx]), fun x hx => h6 x (by simp [hx]), h7, ?_, ?_⟩
      · rw [drop_nth hi, flat_parts] at h1; exact (List.cons.inj h1).1
      · rw [drop_nth hj, flat_parts] at h2; exact (List.cons.inj h2).1

theorem drop_more {p : List Int} {i : Nat} {a b : List Int} (h : p.drop i = a ++ b) : p.drop (i + a.length) = b := by
  rw [← List.drop_drop, h, List.drop_left]

/-- Two symbols that differ. -/
theorem WithAt.clash {p t : List Int} {i j : Nat} {bl : Bl} (h : WithAt p t i j bl) (hi : i < p.length) (hj : j < t.length) (h0 : 0 ≤ nth p i) (hne : nth p i ≠ nth t j) : fitM (tmOf p) (tmOf t) [] = none := by
  obtain ⟨P, T, Ps, Ts, h1, h2, h3, h4, h5, h6, h7, h8, h9⟩ := h.heads hi hj
  rw [← h7]
  show (fitM P T bl).bind _ = _
  rw [fitM_clash (by rw [← h8]; exact h0) h3 h4 (by rw [← h8, ← h9]; exact hne)]; rfl
theorem WithAt.sym {p t : List Int} {i j : Nat} {bl : Bl} (h : WithAt p t i j bl) (hi : i < p.length) (hj : j < t.length) (h0 : 0 ≤ nth p i) (he : nth p i = nth t j) : WithAt p t (i + 1) (j + 1) bl := by
  obtain ⟨P, T, Ps, Ts, h1, h2, h3, h4, h5, h6, h7, h8, h9⟩ := h.heads hi hj
  have e1 : p.drop (i + 1) = flats (P.parts ++ Ps) := by
    rw [drop_nth hi, flat_parts] at h1; rw [flats_append]; exact (List.cons.inj h1).2
  have e2 : t.drop (j + 1) = flats (T.parts ++ Ts) := by
    rw [drop_nth hj, flat_parts] at h2; rw [flats_append]; exact (List.cons.inj h2).2
  refine ⟨P.parts ++ Ps, T.parts ++ Ts, e1, e2, by omega, by omega, ?_, ?_, ?_⟩
  · intro x hx; rcases List.mem_append.1 hx with hx | hx; exact ok_part h3 hx; exact h5 x hx
  · intro x hx; rcases List.mem_append.1 hx with hx | hx; exact ok_part h4 hx; exact h6 x hx
  · rw [← h7, fitS_sym (by rw [← h8]; exact h0) h3 h4 (by rw [← h8, ← h9]; exact he)]
/-- A variable of the first. -/
theorem WithAt.var {p t : List Int} {i j : Nat} {bl : Bl} (h : WithAt p t i j bl) (hi : i < p.length) (hj : j < t.length) (h0 : nth p i < 0) :
    ∃ x, skp t j = ((j + x.length : Nat) : Int) ∧ (t.drop j).take x.length = x ∧ 0 < x.length ∧ j + x.length ≤ t.length ∧
      (lk bl (nth p i) = none → WithAt p t (i + 1) (j + x.length) (bl ++ [(nth p i, x)])) ∧
      (lk bl (nth p i) = some x → WithAt p t (i + 1) (j + x.length) bl) ∧
      (∀ y, lk bl (nth p i) = some y → y ≠ x → fitM (tmOf p) (tmOf t) [] = none) := by
  obtain ⟨P, T, Ps, Ts, h1, h2, h3, h4, h5, h6, h7, h8, h9⟩ := h.heads hi hj
  have hP : P = .leaf (nth p i) := by
    cases P with
    | leaf s => rw [h8]; rfl
    | un s a => have := ar_pos (s := s) (by rw [h3.1]; decide); have e : nth p i = s := h8; omega
    | bin s a b => have := ar_pos (s := s) (by rw [h3.1]; decide); have e : nth p i = s := h8; omega
  have hlen : j + T.flat.length ≤ t.length := by
    have := congrArg List.length h2
    simp only [List.length_drop, List.length_append] at this; omega
  have e1 : p.drop (i + 1) = flats Ps := by
    rw [hP] at h1; exact drop_more (a := [nth p i]) h1
  have e2 : t.drop (j + T.flat.length) = flats Ts := drop_more h2
  rw [hP, fitS_var h0] at h7
  refine ⟨T.flat, ?_, by rw [h2, List.take_left], by rw [size_flat]; exact size_pos T, hlen, fun hn => ?_, fun hs => ?_, fun y hs hne => ?_⟩
  · unfold skp
    rw [if_pos ⟨by omega, by omega⟩, Int.toNat_natCast, h2, need_flat T _ h4]
    have := congrArg List.length h2
    simp only [List.length_drop, List.length_append] at this
    simp only
    omega
  · refine ⟨Ps, Ts, e1, e2, by omega, hlen, h5, h6, ?_⟩
    rw [← h7, bindV, hn]; rfl
  · refine ⟨Ps, Ts, e1, e2, by omega, hlen, h5, h6, ?_⟩
    rw [← h7, bindV, hs]
    simp
  · rw [← h7, bindV, hs]
    simp [hne]

theorem BlIs.none {S : Blk} {w : World} {v : Int} : ∀ {l : List (Value × Value)} {bl : Bl}, BlIs S w l bl → (∀ p ∈ l, p.1 ≠ .int .i64 v) → lk bl v = none
  | [], [], _, _ => rfl
  | q :: l, (k, y) :: bl, ⟨h1, h2, h3⟩, h => by
    have hk : ¬ k = v := fun e => h q (by simp) (by rw [h1, e])
    rw [lk, if_neg hk]
    exact h3.none fun p hp => h p (List.mem_cons_of_mem _ hp)
theorem BlIs.get {S : Blk} {w : World} {x u : Value} : ∀ {l : List (Value × Value)} {bl : Bl}, BlIs S w l bl → (l.map (·.1)).Nodup → (x, u) ∈ l → ∃ s y, x = .int .i64 s ∧ IsInts S w u y ∧ lk bl s = some y
  | [], [], _, _, h => by cases h
  | q :: l, (k, y) :: bl, ⟨h1, h2, h3⟩, hn, h => by
    rw [List.map_cons, List.nodup_cons] at hn
    rcases List.mem_cons.1 h with h | h
    · subst h
      exact ⟨k, y, h1, h2, by rw [lk, if_pos rfl]⟩
    · obtain ⟨s, z, e1, e2, e3⟩ := h3.get hn.2 h
      refine ⟨s, z, e1, e2, ?_⟩
      rw [lk, if_neg, e3]
      rintro rfl
      exact hn.1 (by rw [h1]; exact List.mem_map.2 ⟨_, h, e1⟩)

/-- What is handed out, while td is still to come. -/
def OutAt (bl : Bl) (td : List (Value × Value)) (o : List (List Int)) : Prop :=
  o.length = 8 ∧ ∀ j : Nat, j < 8 → ((∃ q ∈ td, q.1 = Value.int .i64 (-1 - (j : Int))) → nthT o j = [-1 - (j : Int)]) ∧ ((∀ q ∈ td, q.1 ≠ Value.int .i64 (-1 - (j : Int))) → nthT o j = (lk bl (-1 - (j : Int))).getD [-1 - (j : Int)])
theorem OutAt.start {S : Blk} {w : World} {l : List (Value × Value)} {bl : Bl} (h : BlIs S w l bl) : OutAt bl l noneS :=
  ⟨rfl, fun j hj => ⟨fun _ => none_sb j hj, fun hn => by rw [h.none hn]; exact none_sb j hj⟩⟩
theorem OutAt.done {bl : Bl} {o : List (List Int)} (h : OutAt bl [] o) : o = outS bl := by
  refine extT (by rw [h.1, outS_len]) fun j hj => ?_
  rw [h.1] at hj
  rw [(h.2 j hj).2 (fun q hq => by cases hq), nthT_eq (by rw [outS_len]; exact hj)]
  simp [outS]
theorem OutAt.step {bl : Bl} {td td' : List (Value × Value)} {o : List (List Int)} {s : Int} {y : List Int} (h : OutAt bl td o) (hs1 : -8 ≤ s) (hs2 : s < 0) (hl : lk bl s = some y)
    (ht : ∀ q : Value × Value, q ∈ td' ↔ q ∈ td ∧ q.1 ≠ .int .i64 s) : OutAt bl td' (o.set (-1 - s).toNat y) := by
  refine ⟨by rw [List.length_set, h.1], fun j hj => ?_⟩
  have hset : nthT (o.set (-1 - s).toNat y) j = if j = (-1 - s).toNat then y else nthT o j := by
    rw [nthT_eq (by rw [List.length_set, h.1]; exact hj), List.getElem_set]
    by_cases e : (-1 - s).toNat = j
    · rw [if_pos e, if_pos e.symm]
    · rw [if_neg e, if_neg (fun e2 => e e2.symm), nthT_eq (by rw [h.1]; exact hj)]
  rw [hset]
  by_cases e : j = (-1 - s).toNat
  · have e2 : -1 - (j : Int) = s := by omega
    rw [if_pos e, e2]
    refine ⟨fun ⟨q, hq, hqs⟩ => absurd hqs ((ht q).1 hq).2, fun _ => by rw [hl]; rfl⟩
  · have e2 : -1 - (j : Int) ≠ s := by omega
    rw [if_neg e]
    refine ⟨fun ⟨q, hq, hqs⟩ => (h.2 j hj).1 ⟨q, ((ht q).1 hq).1, hqs⟩, fun hn => (h.2 j hj).2 fun q hq hqs => ?_⟩
    refine hn q ((ht q).2 ⟨hq, fun e3 => ?_⟩) hqs
    rw [hqs] at e3
    cases e3
    exact e2 rfl

/-- What was bound, of right terms. -/
theorem bound_of {p t : List Int} (hp : chk p = 0) (ht : chk t = 0) {bl : Bl} (h : fitM (tmOf p) (tmOf t) [] = some bl) {s : Int} {y : List Int} (hl : lk bl s = some y) : -8 ≤ s ∧ s < 0 ∧ y ≠ [] ∧ y.length ≤ 30 ∧ chk y = 0 := by
  obtain ⟨h1, h2⟩ := tm_chk hp
  obtain ⟨h3, h4⟩ := tm_chk ht
  obtain ⟨-, -, -, h5⟩ := fitM_sound _ _ _ _ h1 h3 h
  rcases h5 s y hl with h6 | ⟨h6, h7, k, hk, rfl⟩
  · cases h6
  · have e := (tm_at h3 hk).2.2.1
    rw [h4] at e
    rw [← e]
    rw [← size_flat, h4] at hk
    have hc := chk_paT ht hk
    rw [h2] at h6
    exact ⟨(signs_of_chk hp s h6).1, h7, ne_of_chk hc, len_of_chk hc, hc⟩

end Go.Proofs.Ytepddehodmljeaa

namespace Go.Proofs.Ytepddehodmljeaa
open Go.RowKit Go.Maps

theorem zero24 (w : World) : (zeroValue 24).run Try.prog w = .ok (.slice none 0 0) w := by kernel_rfl

/-- How With stands in memory. -/
def WithMem (w : World) (l : List (Value × Value)) (bl : Bl) (wr : World) : Prop :=
  MapIs Try.prog 3 wr w.heap.size l ∧ BlIs (Low Any w.heap.size) wr l bl ∧ Below w.heap.size w wr

theorem WithMem.mono {w wr wr' : World} {l : List (Value × Value)} {bl : Bl} (h : WithMem w l bl wr) (hb : Below wr.heap.size wr wr') : WithMem w l bl wr' :=
  ⟨h.1.keep (hb.block _ h.1.lt), h.2.1.mono (.of_below hb), ext_trans h.2.2 hb⟩
theorem WithMem.keep {w wr wr' : World} {l : List (Value × Value)} {bl : Bl} {M : Blk} (h : WithMem w l bl wr) (hk : Keeps M wr wr') (hM : ∀ i, M i → w.heap.size < i) : WithMem w l bl wr' :=
  ⟨h.1.keep (hk.block _ h.1.lt fun hm => by have := hM _ hm; omega), h.2.1.mono ⟨hk.size, fun b hb hl => ⟨hb, hk.block b hl fun hm => by have := hM _ hm; have := hb.2; omega⟩⟩,
    h.2.2.trans ⟨hk.os, hk.tape, hk.output, hk.size, fun i hi => hk.block i (by have := h.2.2.size; omega) fun hm => by have := hM _ hm; omega⟩⟩
theorem WithMem.start (w : World) : WithMem w [] [] (w.alloc (.map #[] 0)) := ⟨MapIs.made _ _ _, trivial, below_alloc _ _⟩
theorem WithMem.set {w wr wr' : World} {l l' : List (Value × Value)} {bl bl' : Bl} (h : WithMem w l bl wr) (hm : MapIs Try.prog 3 wr' w.heap.size l') (hk : Keeps (fun i => i = w.heap.size) wr wr') (hb : BlIs (Low Any w.heap.size) wr l' bl') : WithMem w l' bl' wr' :=
  ⟨hm, hb.mono ⟨hk.size, fun b hb hl => ⟨hb, hk.block b hl (by have := hb.2; omega)⟩⟩, h.2.2.trans ⟨hk.os, hk.tape, hk.output, hk.size, fun i hi => hk.block i (by have := h.2.2.size; omega) (by omega)⟩⟩

set_option maxRecDepth 100000 in
set_option maxHeartbeats 2000000 in
theorem With_calls (p t : List Int) (hp : chk p = 0) (ht : chk t = 0) (u v : Value) (w : World) (hu : IsInts Any w u p) (hv : IsInts Any w v t) :
    Calls Try.prog 108 #[u, v] w fun e w' => ∃ x, e = .returned (.tuple #[x, .bool (fitL p t).isSome]) ∧ IsTerms (Fr w.heap.size) w' x ((fitL p t).getD []) ∧ Below w.heap.size w w' := by
  have hpn := ne_of_chk hp
  have htn := ne_of_chk ht
  have hpl := len_of_chk hp
  have htl := len_of_chk ht
  have hps := Lib.hid (signs_of_chk hp)
  have hts := Lib.hid (small_of_signs (signs_of_chk ht))
  have hW0 := Lib.hid (WithAt.start hp ht)
  have hv0 := Lib.hid hv.low
  have hpt := Lib.hid (And.intro hp ht)
  obtain ⟨-, ⟨h, -⟩ | ⟨-, b, o, c, rfl, hcap, -, hlt, hc⟩⟩ := hu
  · exact absurd h hpn
  obtain ⟨-, ⟨h, -⟩ | ⟨-, b', o', c', rfl, hcap', -, hlt', hc'⟩⟩ := hv
  · exact absurd h htn
  have HC := Lib.hid hc
  have HC' := Lib.hid hc'
  have hM0 := Lib.hid (WithMem.start w)
  have hmm := @run_makeMap Try.prog
  clear hc hc' hpn htn hp ht hcap hcap'
  go_enter Try.func108, Try.ntmps108
  go_wp2_with fail
  go_loopw [7, 8] (fun i j wr => ∃ (n m : Nat) (l : List (Value × Value)) (bl : Bl), i = .int .i64 n ∧ j = .int .i64 m ∧ Hid (WithAt p t n m bl ∧ WithMem w l bl wr)) (fun i _ _ => p.length - (intOf i).toNat)
  case atStart => exact ⟨0, 0, [], [], rfl, rfl, hW0.out, hM0.out⟩
  case round =>
    obtain ⟨n, m, l, bl, rfl, rfl, hR⟩ := hrel
    clear hW0 hM0
    by_cases hin : n < p.length ∧ m < t.length
    · obtain ⟨hi, hj⟩ := hin
      have hcell : wr.cell? ⟨b, o + n, none⟩ = some (.int .i64 (nth p n)) := (hR.out.2.2.2.cell (p := ⟨b, o + n, none⟩) hlt).trans (HC.out n hi)
      have hcell' : wr.cell? ⟨b', o' + m, none⟩ = some (.int .i64 (nth t m)) := (hR.out.2.2.2.cell (p := ⟨b', o' + m, none⟩) hlt').trans (HC'.out m hj)
      have hii : (n : Int) < p.length := by omega
      have hjj : (m : Int) < t.length := by omega
      by_cases h0 : 0 ≤ nth p n
      · by_cases he : nth p n = nth t m
        · have hW := Lib.hid (hR.out.1.sym hi hj h0 he)
          have hne : (nth p n != nth t m) = false := by simpa using he
          clear he
          go_wp2_with fail
          go_quiet (fail)
          go_wp2_with fail
          go_roundw
          case rel => exact ⟨n + 1, m + 1, l, bl, by go_num, by go_num, hW.out, hR.out.2.mono (below_drewN _ _ _)⟩
          case measure => simp [intOf]; omega
        · have hr : Hid (fitL p t = none) := by rw [Hid, fitL, hR.out.1.clash hi hj h0 he]; rfl
          have hne : (nth p n != nth t m) = true := by simpa using he
          have hB := Lib.hid hR.out.2.2.2
          clear he hR
          go_wp2_with fail
          go_quiet (fail)
          go_wp2_with fail
          go_ret2
          rw [hr.out]
          exact ⟨_, rfl, .nil _ _, ext_trans hB.out (below_drewN _ _ _)⟩
      · have h0' : nth p n < 0 := by omega
        obtain ⟨x, g1, g2, g3, g4, g5, g6, g7⟩ := hR.out.1.var hi hj h0'
        have hsg := hps.out (nth p n) (nth_mem hi)
        have hkey : Hid (keyOf Try.prog 3 (.int .i64 (nth p n)) = some (.int .i64 (nth p n))) := keyOf_int_mk Try.underlying3 (wf_i64 (by omega) (by omega))
        have hAt := At_calls (Low Any w.heap.size) t hts.out _ m (m + x.length) wr (hv0.out.mono ⟨hR.out.2.2.2.size, fun b hb hl => ⟨hb, hR.out.2.2.2.block b hl⟩⟩) g1 (by omega) g4
        rw [Nat.add_sub_cancel_left, g2] at hAt
        have HAt := Lib.hid hAt
        clear hAt g1 g2
        have hxl : (x.length : Int) ≤ 30 := by omega
        cases hl : lk bl (nth p n) with
        | none =>
          have hW := Lib.hid (g5 hl)
          have ha := Lib.hid (hR.out.2.2.1.abs hl)
          clear g5 g6 g7 hl h0
          go_wp2_with fail
          refine HAt.out.mono ?_
          rintro e w' ⟨y, rfl, hy, rfl⟩
          obtain ⟨ya, yc, rfl⟩ := hy.isSlice
          have hY := Lib.hid hy
          clear hy
          go_wp2_with (first
            | (at_lookup; refine lookup_abs true _ _ 179 rfl rfl 3 24 (.slice none 0 0) (int_keyed Try.underlying3) Try.underlying179 (zero24 _) w.heap.size _ rfl hR.out.2.1 _ _ rfl hkey.out ha.out ?_)
            | (at_mapUpdate; refine mapset_abs _ _ _ 179 rfl rfl rfl 3 24 (int_keyed Try.underlying3) Try.underlying179 w.heap.size _ rfl hR.out.2.1 _ _ rfl hkey.out ha.out ?_; intro w1 hm1 hk1 hs1))
          go_roundw
          case rel => exact ⟨n + 1, m + x.length, _, _, by go_num, by go_num, hW.out, hR.out.2.set hm1 hk1 (hR.out.2.2.1.snoc hY.out)⟩
          case measure => simp [intOf]; omega
        | some y0 =>
          obtain ⟨l1, u0, l2, hll, hu0, hset⟩ := hR.out.2.2.1.pres hl
          subst hll
          obtain ⟨ua, uc, rfl⟩ := hu0.isSlice
          have hU0 := Lib.hid hu0
          have hmem : Hid ((Value.int .i64 (nth p n), Value.slice ua y0.length uc) ∈ l1 ++ (Value.int .i64 (nth p n), Value.slice ua y0.length uc) :: l2) := List.mem_append.2 (.inr (List.mem_cons_self ..))
          have hS := Lib.hid hset
          clear hu0 hset
          by_cases hyx : y0 = x
          · subst hyx
            have hW := Lib.hid (g6 hl)
            clear g5 g6 g7 hl h0
            go_wp2_with fail
            refine HAt.out.mono ?_
            rintro e w' ⟨y, rfl, hy, rfl⟩
            obtain ⟨ya, yc, rfl⟩ := hy.isSlice
            have hY := Lib.hid hy
            have hE := Lib.hid (Equal_calls y0 y0 _ _ wr hU0.out.any hy.any)
            clear hy
            go_wp2_with (at_lookup; refine lookup_pres true _ _ 179 rfl rfl 3 24 (int_keyed Try.underlying3) Try.underlying179 w.heap.size _ rfl hR.out.2.1 _ (.slice ua y0.length uc) _ rfl hkey.out hmem.out ?_)
            refine hE.out.mono ?_
            rintro e w' ⟨rfl, nd, rfl⟩
            have hcellD : (wr.drewN nd).cell? ⟨b, o + n, none⟩ = some (.int .i64 (nth p n)) := hcell
            have hmD := Lib.hid (hR.out.2.mono (below_drewN _ wr nd))
            go_wp2_with (at_mapUpdate; refine mapset_pres _ _ _ 179 rfl rfl rfl 3 24 (int_keyed Try.underlying3) Try.underlying179 w.heap.size l1 l2 _ _ rfl hmD.out.1 _ rfl hkey.out ?_; intro w1 hm1 hk1 hs1)
            go_roundw
            case rel => exact ⟨n + 1, m + y0.length, _, _, by go_num, by go_num, hW.out, hmD.out.set hm1 hk1 ((hS.out _ hY.out).mono (.of_below (below_drewN _ wr nd)))⟩
            case measure => simp [intOf]; omega
          · have hr : Hid (fitL p t = none) := by rw [Hid, fitL, g7 y0 hl hyx]; rfl
            have hE0 : Hid (y0 ≠ x) := hyx
            clear g5 g6 g7 hl h0 hyx
            go_wp2_with fail
            refine HAt.out.mono ?_
            rintro e w' ⟨y, rfl, hy, rfl⟩
            obtain ⟨ya, yc, rfl⟩ := hy.isSlice
            have hE := Lib.hid (Equal_calls y0 x _ _ wr hU0.out.any hy.any)
            clear hy
            go_wp2_with (at_lookup; refine lookup_pres true _ _ 179 rfl rfl 3 24 (int_keyed Try.underlying3) Try.underlying179 w.heap.size _ rfl hR.out.2.1 _ (.slice ua y0.length uc) _ rfl hkey.out hmem.out ?_)
            refine hE.out.mono ?_
            rintro e w' ⟨rfl, nd, rfl⟩
            rw [decide_eq_false hE0.out]
            go_wp2_with fail
            go_ret2
            rw [hr.out]
            exact ⟨_, rfl, .nil _ _, (hR.out.2.mono (below_drewN _ wr nd)).2.2⟩
    · have hfin := hR.out.1.done hin
      have hr : Hid (fitL p t = some (outS bl)) := by rw [Hid, fitL, hfin]; rfl
      have hBd := Lib.hid fun s y (hl : lk bl s = some y) => bound_of hpt.out.1 hpt.out.2 hfin hl
      obtain ⟨i24, hi, hz, hsz, hby⟩ := info_parts Try.inf24
      have hM := Lib.hid hR.out.2
      have hcs : (p.length : Int) ≤ n ∨ ((n : Int) < p.length ∧ (t.length : Int) ≤ m) := by omega
      clear hfin hR hin
      rcases hcs with hcs | ⟨hcs, hcs2⟩
      all_goals
        go_wp2_with fail
        refine (None_calls wr).mono ?_
        rintro e w1 ⟨v1, rfl, hO, hB1⟩
        obtain ⟨g, c1, cur, rfl, hg, hgg, hcc⟩ := hO.at (by simp [noneS])
        have hl8 : noneS.length = 8 := rfl
        rw [hl8] at hO ⊢
        have hM1 := Lib.hid (hM.out.mono hB1)
        have hO1 := Lib.hid hO
        have hgl := lt_of_block hgg
        have hz1 := hM.out.2.2.size
        have hz2 := hB1.size
        have hz3 := hM.out.1.lt
        clear hO hB1 hgg hcc hl8 hM
        go_wp2_with (at_range; refine range_map _ 179 rfl rfl 3 24 Try.underlying179 3 w.heap.size l rfl hM1.out.1 ?_; intro w2 hr2 hb2 hs2)
        go_frame
        have hst : Hid (∃ td o, (∀ q ∈ td, q ∈ l) ∧ RngIs w2 w1.heap.size w.heap.size td ∧ OutAt bl td o ∧ OwnRow wr.heap.size 24 1 TermR (fun b => wr.heap.size ≤ b ∧ b ≠ w1.heap.size) w2 (.slice (some ⟨g, 0, none⟩) 8 c1) o ∧ WithMem w l bl w2) :=
          ⟨l, noneS, fun _ h => h, hr2, OutAt.start hM1.out.2.1, hO1.out.mono TermR.ok ⟨hb2.size, fun b hb hl => ⟨⟨hb, by omega⟩, hb2.block b hl⟩⟩ (fun k hk => hb2.block k (hO1.out.block k hk).2), hM1.out.mono hb2⟩
        have hnk : Hid ((l.map (·.1)).Nodup) := hM1.out.1.keys
        clear hr2 hb2 hs2 hO1 hM1
        obtain ⟨wo, rfl⟩ : ∃ wo : World, wo = wr := ⟨_, rfl⟩
        go_loopw [13] (fun _ wr => Hid (∃ td o, (∀ q ∈ td, q ∈ l) ∧ RngIs wr w1.heap.size w.heap.size td ∧ OutAt bl td o ∧ OwnRow wo.heap.size 24 1 TermR (fun b => wo.heap.size ≤ b ∧ b ≠ w1.heap.size) wr (.slice (some ⟨g, 0, none⟩) 8 c1) o ∧ WithMem w l bl wr)) (fun _ wr => wr.rangeLeft w.heap.size w1.heap.size)
        case atStart => exact hst.out
        case round =>
          clear hst
          obtain ⟨td, ol, htd, hrg, hout, hown, hmem⟩ := hrel
          have HT := Lib.hid htd
          have HR := Lib.hid hrg
          have HO := Lib.hid hout
          have HW := Lib.hid hown
          have HM := Lib.hid hmem
          clear htd hrg hout hown hmem
          go_wp2_with (at_next; refine next_map _ rfl rfl w.heap.size w1.heap.size td rfl HR.out ?_ ?_)
          · intro hdone
            have hD := Lib.hid hdone
            clear hdone
            go_wp2_with fail
            go_ret2
            rw [hr.out]
            have ho := HO.out
            rw [hD.out] at ho
            rw [ho.done] at HW
            exact ⟨_, rfl, HW.out.isRow TermR.ok (fun b hb => by have := hb.1; show w.heap.size ≤ b; omega) (fun b hb => by show w.heap.size ≤ b; omega) (by simp [outS_len]), HM.out.2.2⟩
          · intro x vv td' w5 hx htd' hlen5 hrg5 hk5 hs5 hen5
            obtain ⟨s, y, rfl, hvv, hlk⟩ := HM.out.2.1.get hnk.out (HT.out _ hx)
            obtain ⟨hs8, hs0, hyn, hyl, -⟩ := hBd.out s y hlk
            obtain ⟨va, vc, rfl⟩ := hvv.isSlice
            replace htd' : ∀ q : Value × Value, q ∈ td' ↔ q ∈ td ∧ q.1 ≠ .int .i64 s := fun q => htd' q.1 q.2
            have hO5 := Lib.hid (HO.out.step hs8 hs0 hlk htd')
            have hT5 : Hid (∀ q ∈ td', q ∈ l) := fun q hq => HT.out q ((htd' q).1 hq).1
            have hgr : g ≠ w1.heap.size := by omega
            have hM5 := Lib.hid (HM.out.keep hk5 fun i hi => by rw [hi]; omega)
            have hW5 := Lib.hid (HW.out.mono TermR.ok ⟨hk5.size, fun b hb hl => ⟨hb, hk5.block b hl hb.2⟩⟩ fun k hk => hk5.block k (HW.out.block k hk).2 (by simp [Value.ownBlock] at hk; omega))
            have hR5 := Lib.hid hrg5
            have hL5 : Hid (w5.rangeLeft w.heap.size w1.heap.size < wr.rangeLeft w.heap.size w1.heap.size) := by rw [Hid, hrg5.left, HR.out.left]; exact hlen5
            have hcl := Lib.hid (Clone_calls y _ w5 hyn (by omega) (hvv.mono (S' := Any) ⟨hk5.size, fun b hb hl => ⟨trivial, hk5.block b hl (by have := hb.2; omega)⟩⟩))
            have hz5 := HR.out.lt.2
            have hkk : Hid ((-1 - s).toNat < ol.length) := by rw [Hid, HO.out.1]; omega
            clear HM HW HR HT HO hx htd' hlen5 hrg5 hvv hlk hyn hk5
            go_wp2_with fail
            refine hcl.out.mono ?_
            rintro e w6 ⟨z, rfl, hz, hB6⟩
            obtain ⟨za, zc, rfl⟩ := hz.isSlice
            have hs : Hid (TermR (Both' (fun b => wo.heap.size ≤ b ∧ b ≠ w1.heap.size) fun b => b ≠ g) w6 [.slice za y.length zc] y) := ⟨_, rfl, hz.mono (.weak fun b hb => by
              have h1 : w5.heap.size ≤ b := hb
              exact ⟨⟨by omega, by omega⟩, by omega⟩)⟩
            have hW6 := Lib.hid (hW5.out.below TermR.ok hB6)
            have hM6 := Lib.hid (hM5.out.mono hB6)
            have hR6 := Lib.hid (hR5.out.keep (hB6.block _ hR5.out.lt.1) (hB6.block _ hR5.out.lt.2))
            clear hz hcl hW5 hM5
            go_wp2_with ((with_reducible show wpList _ _ _ (Oper.mk none (Op.store _ _ _) _ _ _ _ :: _) _ _); refine store_rows TermR.ok _ _ 24 rfl rfl rfl i24 hi hsz wo.heap.size 24 (fun b => wo.heap.size ≤ b ∧ b ≠ w1.heap.size) g (-1 - s).toNat 8 c1 _ rfl hW6.out hkk.out y hs.out rfl ?_; intro w7 hown7 hg7 hz7)
            have hR7 := Lib.hid (hR6.out.keep (hg7.block _ hR6.out.lt.1 (fun e => by cases e; omega)) (hg7.block _ hR6.out.lt.2 (fun e => by cases e; omega)))
            go_roundw
            case rel =>
              exact ⟨td', _, hT5.out, hR7.out, hO5.out, hown7, hM6.out.keep (M := fun i => i = g) ⟨hg7.os, hg7.tape, hg7.output, hg7.size, fun k hk hm => hg7.block k hk fun e => hm (by cases e; rfl)⟩ fun i hi => by rw [hi]; omega⟩
            case measure =>
              have h1 := hR7.out.left
              have h2 := hR5.out.left
              have h3 := hL5.out
              omega

end Go.Proofs.Ytepddehodmljeaa

namespace Go.Proofs.Ytepddehodmljeaa
open Go.RowKit Go.Maps

theorem Fit_calls (p t : List Int) (u v : Value) (w : World) (hu : IsInts Any w u p) (hv : IsInts Any w v t) :
    Calls Try.prog 46 #[u, v] w fun e w' => ∃ x, e = .returned (.tuple #[x, .bool (fitB p t), .int .i64 (chk2 p t)]) ∧ IsTerms (Fr w.heap.size) w' x (fitT p t) ∧ Below w.heap.size w w' := by
  have h1 := Lib.hid (Both_calls p t u v w hu hv)
  by_cases h : chk2 p t = 0
  · have hr : Hid (fitT p t = (fitL p t).getD [] ∧ fitB p t = (fitL p t).isSome) := by rw [Hid, fitT, fitB, if_pos h, if_pos h]; exact ⟨rfl, rfl⟩
    have h2 := Lib.hid (With_calls p t (chk2_zero h).1 (chk2_zero h).2 u v w hu hv)
    have hh := Lib.hid h
    clear hu hv h
    go_enter Try.func46, Try.ntmps46
    go_wp2_with fail
    refine h1.out.mono ?_
    rintro e w' ⟨rfl, rfl⟩
    rw [hh.out]
    go_wp2_with fail
    refine h2.out.mono ?_
    rintro e w1 ⟨x, rfl, hx, hB⟩
    have hX := Lib.hid hx
    clear hx
    go_wp2_with fail
    go_ret3
    exact ⟨x, by rw [hr.out.2, hh.out]; rfl, by rw [hr.out.1]; exact hX.out, hB⟩
  · have hr : Hid (fitT p t = [] ∧ fitB p t = false) := by rw [Hid, fitT, fitB, if_neg h, if_neg h]; exact ⟨rfl, rfl⟩
    have h' : (chk2 p t != 0) = true := by simpa using h
    clear hu hv h
    go_enter Try.func46, Try.ntmps46
    go_wp2_with fail
    refine h1.out.mono ?_
    rintro e w' ⟨rfl, rfl⟩
    clear h1
    go_wp2_with fail
    go_ret3
    exact ⟨.slice none 0 0, by rw [hr.out.2]; rfl, by rw [hr.out.1]; exact .nil _ _, .refl _ _⟩

end Go.Proofs.Ytepddehodmljeaa
