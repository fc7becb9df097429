/- Walks: the binder of unify in memory; walk. -/
import Derived.Test.YtepddehodmljeaaPy
import Derived.Test.YtepddehodmljeaaW2
import Derived.BigQuiet
import Derived.StillTailTactics
import Derived.WalkLawsBesides
namespace Go.Proofs.Ytepddehodmljeaa
open Go.RowKit Go.Maps

/-- What a cell of the binder holds. -/
def BnC (B : Nat) (w : World) (o : Option Tm) (v : Value) : Prop :=
  match o with
  | none => v = .slice none 0 0
  | some t => IsInts (fun b => b ≠ B) w v t.flat

def BnIs (B : Nat) (w : World) (β : Bn) : Prop :=
  ∃ vals : List Value, w.ownsRow B 211 1 (.slice (some ⟨B, 0, none⟩) 8 8) 8 vals ∧ vals.length = 8 ∧ ∀ k : Nat, k < 8 → ∃ v, vals[k]? = some v ∧ BnC B w (β (-1 - (k : Int))) v

theorem BnC.mono {B : Nat} {w w' : World} {o : Option Tm} {v : Value} (h : BnC B w o v) (hk : Sok (fun b => b ≠ B) (fun b => b ≠ B) w w') : BnC B w' o v := by
  cases o with
  | none => exact h
  | some t => exact IsInts.mono h hk
theorem BnIs.lt {B : Nat} {w : World} {β : Bn} (h : BnIs B w β) : B < w.heap.size := by
  obtain ⟨vals, h1, -⟩ := h
  exact (World.ownsRow.lt h1 B rfl).2
theorem BnIs.keep {B : Nat} {w w' : World} {β : Bn} (h : BnIs B w β) (hb : Below w.heap.size w w') : BnIs B w' β := by
  obtain ⟨vals, h1, h2, h3⟩ := h
  refine ⟨vals, ownsRow_keep h1 fun k hk => hb.block k (World.ownsRow.lt h1 k hk).2, h2, fun k hk => ?_⟩
  obtain ⟨v, g1, g2⟩ := h3 k hk
  exact ⟨v, g1, g2.mono (.of_below hb)⟩
theorem BnIs.cell {B : Nat} {w : World} {β : Bn} (h : BnIs B w β) {v : Int} (h8 : -8 ≤ v) (hv : v < 0) : ∃ u, w.cell? ⟨B, (-1 - v).toNat, none⟩ = some u ∧ BnC B w (β v) u := by
  obtain ⟨vals, h1, h2, h3⟩ := h
  obtain ⟨u, g1, g2⟩ := h3 (-1 - v).toNat (by omega)
  refine ⟨u, ?_, ?_⟩
  · have := World.ownsRow.cellAt h1 (-1 - v).toNat (by omega)
    rw [this, g1]
  · rw [show (-1 - (((-1 - v).toNat : Nat) : Int)) = v by omega] at g2
    exact g2
theorem BnIs.frozen {B : Nat} {w : World} {β : Bn} (h : BnIs B w β) (k : Nat) : w.frozen? ⟨B, k, none⟩ = false := by
  obtain ⟨vals, h1, -⟩ := h
  exact World.ownsRow.frozenAt h1 k
theorem BnIs.store {B : Nat} {w : World} {β : Bn} (h : BnIs B w β) {v : Int} (h8 : -8 ≤ v) (hv : v < 0) {t : Tm} {s : Value} (hs : IsInts (fun b => b ≠ B) w s t.flat) :
    BnIs B (w.setCell ⟨B, (-1 - v).toNat, none⟩ s) (bnd β v t) ∧ Keeps (fun b => b = B) w (w.setCell ⟨B, (-1 - v).toNat, none⟩ s) := by
  obtain ⟨vals, h1, h2, h3⟩ := h
  obtain ⟨g1, g2⟩ := World.ownsRow.stored h1 (-1 - v).toNat s
  have hK : Sok (fun b => b ≠ B) (fun b => b ≠ B) w (w.setCell ⟨B, (-1 - v).toNat, none⟩ s) := ⟨g2.size, fun x hx hl => ⟨hx, g2.block x hl fun e => hx (by cases e; rfl)⟩⟩
  refine ⟨⟨vals.set (-1 - v).toNat s, g1, by simpa using h2, fun k hk => ?_⟩, ⟨g2.os, g2.tape, g2.output, g2.size, fun x hl hx => g2.block x hl fun e => hx (by cases e; rfl)⟩⟩
  by_cases e : (-1 - v).toNat = k
  · refine ⟨s, by rw [List.getElem?_set, if_pos e, if_pos (by omega)], ?_⟩
    rw [show (-1 - (k : Int)) = v by omega, show bnd β v t v = some t from if_pos rfl]
    exact hs.mono hK
  · obtain ⟨u, q1, q2⟩ := h3 k hk
    refine ⟨u, by rw [List.getElem?_set, if_neg e]; exact q1, ?_⟩
    rw [show bnd β v t (-1 - (k : Int)) = β (-1 - (k : Int)) from if_neg (by omega)]
    exact q2.mono hK

/-- The first sign of what a slice holds. -/
def headV (w : World) : Value → Int
  | .slice (some a) _ _ => match w.cell? a with
    | some (.int _ n) => n
    | _ => 0
  | _ => 0

theorem flat_nth0 (x : Tm) : nth x.flat 0 = x.sg := by obtain ⟨r, e⟩ := sg_flat x; rw [e]; rfl

theorem Wk.next {β : Bn} {x y t : Tm} (k : Wk β x y) (h0 : x.sg < 0) (hb : β x.sg = some t) : Wk β t y := by
  cases k with
  | stay h => rw [h h0] at hb; cases hb
  | go hv hb' k' =>
    have e : β _ = some t := hb
    simp only [Tm.sg] at e
    rw [hb'] at e; cases e; exact k'
theorem Wk.last {β : Bn} {x y : Tm} (k : Wk β x y) (h : ¬ (x.sg < 0 ∧ ∃ t, β x.sg = some t)) : x = y := by
  cases k with
  | stay h => rfl
  | go hv hb' k' => exact absurd ⟨hv, _, hb'⟩ h

set_option maxRecDepth 100000 in
set_option maxHeartbeats 2000000 in
theorem walk_calls {B : Nat} {β : Bn} {θ : Int → Tm} (hS : St β θ) {x y : Tm} (hW : Wk β x y) (h8 : -8 ≤ x.sg) {v : Value} {w : World} (hB : BnIs B w β) (hv : IsInts (fun b => b ≠ B) w v x.flat) :
    Calls Try.prog 205 #[.pointer (some ⟨B, 0, none⟩), v] w fun e w' => ∃ u n, e = .returned u ∧ IsInts (fun b => b ≠ B) w' u y.flat ∧ w' = w.drewN n := by
  obtain ⟨r, hr⟩ := hS.rk
  have HS := Lib.hid hS
  have HR := Lib.hid hr
  have HB := Lib.hid hB
  have hx0 : Hid (Wk β x y ∧ -8 ≤ x.sg ∧ IsInts (fun b => b ≠ B) (w.drewN 0) v x.flat) := ⟨hW, h8, hv⟩
  have hnil := fun w a l c => run_neq_slice_nil (P := Try.prog) w 24 3 a l c Try.underlying24
  clear hS hr hB hW h8 hv
  go_enter Try.func205, Try.ntmps205
  go_wp2_with fail
  go_loopw [1] (fun s wr => ∃ x', Hid (∃ n, wr = w.drewN n) ∧ Hid (Wk β x' y ∧ -8 ≤ x'.sg ∧ IsInts (fun b => b ≠ B) wr s x'.flat)) (fun s _ => if headV w s < 0 then r (headV w s) + 1 else 0)
  case atStart => exact ⟨x, ⟨0, rfl⟩, hx0.out⟩
  case round =>
    rename World => wr
    obtain ⟨x', hn, hK⟩ := hrel
    obtain ⟨sb, so, sc, rfl⟩ := hK.out.2.2.cells (flat_ne x')
    have hc := hK.out.2.2.cell (j := 0) (List.length_pos_iff.2 (flat_ne x'))
    rw [flat_nth0, Nat.add_zero] at hc
    have hpos : (0 : Int) < x'.flat.length := by have := List.length_pos_iff.2 (flat_ne x'); omega
    have hh : headV w (.slice (some ⟨sb, so, none⟩) x'.flat.length sc) = x'.sg := by
      obtain ⟨n, e⟩ := hn.out
      have : w.cell? ⟨sb, so, none⟩ = some (.int .i64 x'.sg) := by rw [e] at hc; exact hc
      simp only [headV, this]
    have h8 := hK.out.2.1
    have hLN : 0 < x'.flat.length := List.length_pos_iff.2 (flat_ne x')
    generalize x'.flat.length = L at *
    by_cases h0 : x'.sg < 0
    · obtain ⟨u, hu, hC⟩ := (show BnIs B wr β by obtain ⟨n, e⟩ := hn.out; rw [e]; exact HB.out.keep (below_drewN _ w n)).cell h8 h0
      obtain ⟨m, hm8, hzm⟩ : ∃ m : Nat, m < 8 ∧ x'.sg = -1 - (m : Int) := ⟨(-1 - x'.sg).toNat, by omega, by omega⟩
      have hmm : (m : Int) < 8 := by omega
      have hw : IntKind.i64.wrap (-1 - (-1 - (m : Int))) = m := by rw [IntWalk.i64_in _ (by omega)]; omega
      rw [show (-1 - x'.sg).toNat = m by omega] at hu
      have hd : decide (x'.sg < 0) = true := decide_eq_true h0
      cases hb : β x'.sg with
      | none =>
        rw [hb] at hC
        obtain rfl : u = .slice none 0 0 := hC
        have hy := hK.out.1.last (fun ⟨_, t, ht⟩ => by rw [hb] at ht; cases ht)
        clear hb
        rw [hzm] at hd hc h0
        go_wp2_with fail
        go_quiet (fail)
        go_wp2_with fail
        go_ret
        obtain ⟨n, e⟩ := hn.out
        refine ⟨_, n + nq, rfl, by rw [← hy]; exact hK.out.2.2.mono (.of_below (below_drewN _ wr nq)), ?_⟩
        rw [e, World.drewN_drewN]
      | some t =>
        rw [hb] at hC
        have hCt : IsInts (fun b => b ≠ B) wr u t.flat := hC
        have hnx := hK.out.1.next h0 hb
        have hrt := HR.out _ _ hb
        have hlt := (HS.out.low _ _ hb).2.1
        obtain ⟨ub, uo, uc, rfl⟩ := hCt.cells (flat_ne t)
        have HCt := Lib.hid hCt
        have htc := hCt.cell (j := 0) (List.length_pos_iff.2 (flat_ne t))
        rw [flat_nth0, Nat.add_zero] at htc
        have hrk : Hid ((if headV w (.slice (some ⟨ub, uo, none⟩) t.flat.length uc) < 0 then r (headV w (.slice (some ⟨ub, uo, none⟩) t.flat.length uc)) + 1 else 0) < r x'.sg + 1) := by
          obtain ⟨n, e⟩ := hn.out
          have : w.cell? ⟨ub, uo, none⟩ = some (.int .i64 t.sg) := by rw [e] at htc; exact htc
          simp only [Hid, headV, this]
          split
          · have := hrt t.sg (by obtain ⟨r', e⟩ := sg_flat t; rw [e]; exact List.mem_cons_self ..) (by assumption)
            omega
          · omega
        have ht8 := (hlt t.sg (by obtain ⟨r', e⟩ := sg_flat t; rw [e]; exact List.mem_cons_self ..)).1
        clear hb hrt hlt hCt hC htc
        rw [hzm] at hd hc h0 hrk
        generalize t.flat.length = M at *
        go_wp2_with fail
        go_quiet (fail)
        rename Nat => n1
        go_wp2_with fail
        go_quiet (fail)
        go_wp2_with fail
        go_roundw
        case rel =>
          obtain ⟨n, e⟩ := hn.out
          exact ⟨t, ⟨n + (n1 + nq), by rw [e, World.drewN_drewN, World.drewN_drewN, ← Nat.add_assoc]⟩, hnx, ht8, HCt.out.mono (.of_below (ext_trans (below_drewN _ wr _) (below_drewN _ _ _)))⟩
        case measure =>
          have e : (if (-1 - (m : Int)) < 0 then r (-1 - (m : Int)) + 1 else 0) = r (-1 - (m : Int)) + 1 := if_pos (by omega)
          rw [hh, hzm, e]
          exact hrk.out
    · have hd : decide (x'.sg < 0) = false := decide_eq_false h0
      have hy := hK.out.1.last (fun ⟨h, _⟩ => h0 h)
      generalize hz : x'.sg = z at *
      go_wp2_with fail
      go_quiet (fail)
      go_wp2_with fail
      go_ret
      obtain ⟨n, e⟩ := hn.out
      refine ⟨_, n + nq, rfl, by rw [← hy]; exact hK.out.2.2.mono (.of_below (below_drewN _ wr nq)), ?_⟩
      rw [e, World.drewN_drewN]

end Go.Proofs.Ytepddehodmljeaa
