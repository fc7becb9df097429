/- Walks: unify: walk, occurs, bind, meet, whole, Solve, Meet, All. -/
import Derived.BigQuiet
import Derived.StillTailTactics
import Derived.WalkLawsBesides
import Derived.Defers
import Derived.Recover
import Derived.Deep.RegionWith
import Derived.Deep.RegionHeld3
import Derived.Test.YtepddehodmljeaaG7
import Derived.Test.YtepddehodmljeaaW2
namespace Go.Proofs.Ytepddehodmljeaa
open Go.RowKit Go.Maps

/-- What a cell of the binder holds. -/
def BnC (B : Nat) (w : World) (o : Option Tm) (v : Value) : Prop :=
  match o with
  | none => v = .slice none 0 0
  | some t => IsInts (fun b => b ≠ B) w v t.flat

def BnIs (B : Nat) (w : World) (β : Bn) : Prop :=
  ∃ vals : List Value, w.ownsRow B 211 1 (.slice (some ⟨B, 0, none⟩) 8 8) 8 vals ∧ vals.length = 8 ∧ ∀ k : Nat, k < 8 → ∃ v, vals[k]? = some v ∧ BnC B w (β (-1 - (k : Int))) v

theorem BnC.mono {B : Nat} {w w' : World} {o : Option Tm} {v : Value} (h : BnC B w o v) (hk : Sok (fun b => b ≠ B) (fun b => b ≠ B) w w') : BnC B w' o v := by
  cases o with
  | none => exact h
  | some t => exact IsInts.mono h hk
theorem BnIs.lt {B : Nat} {w : World} {β : Bn} (h : BnIs B w β) : B < w.heap.size := by
  obtain ⟨vals, h1, -⟩ := h
  exact (World.ownsRow.lt h1 B rfl).2
theorem BnIs.keep {B : Nat} {w w' : World} {β : Bn} (h : BnIs B w β) (hb : Below w.heap.size w w') : BnIs B w' β := by
  obtain ⟨vals, h1, h2, h3⟩ := h
  refine ⟨vals, ownsRow_keep h1 fun k hk => hb.block k (World.ownsRow.lt h1 k hk).2, h2, fun k hk => ?_⟩
  obtain ⟨v, g1, g2⟩ := h3 k hk
  exact ⟨v, g1, g2.mono (.of_below hb)⟩
theorem BnIs.cell {B : Nat} {w : World} {β : Bn} (h : BnIs B w β) {v : Int} (h8 : -8 ≤ v) (hv : v < 0) : ∃ u, w.cell? ⟨B, (-1 - v).toNat, none⟩ = some u ∧ BnC B w (β v) u := by
  obtain ⟨vals, h1, h2, h3⟩ := h
  obtain ⟨u, g1, g2⟩ := h3 (-1 - v).toNat (by omega)
  refine ⟨u, ?_, ?_⟩
  · have := World.ownsRow.cellAt h1 (-1 - v).toNat (by omega)
    rw [this, g1]
  · rw [show (-1 - (((-1 - v).toNat : Nat) : Int)) = v by omega] at g2
    exact g2
theorem BnIs.frozen {B : Nat} {w : World} {β : Bn} (h : BnIs B w β) (k : Nat) : w.frozen? ⟨B, k, none⟩ = false := by
  obtain ⟨vals, h1, -⟩ := h
  exact World.ownsRow.frozenAt h1 k
theorem BnIs.store {B : Nat} {w : World} {β : Bn} (h : BnIs B w β) {v : Int} (h8 : -8 ≤ v) (hv : v < 0) {t : Tm} {s : Value} (hs : IsInts (fun b => b ≠ B) w s t.flat) :
    BnIs B (w.setCell ⟨B, (-1 - v).toNat, none⟩ s) (bnd β v t) ∧ Keeps (fun b => b = B) w (w.setCell ⟨B, (-1 - v).toNat, none⟩ s) := by
  obtain ⟨vals, h1, h2, h3⟩ := h
  obtain ⟨g1, g2⟩ := World.ownsRow.stored h1 (-1 - v).toNat s
  have hK : Sok (fun b => b ≠ B) (fun b => b ≠ B) w (w.setCell ⟨B, (-1 - v).toNat, none⟩ s) := ⟨g2.size, fun x hx hl => ⟨hx, g2.block x hl fun e => hx (by cases e; rfl)⟩⟩
  refine ⟨⟨vals.set (-1 - v).toNat s, g1, by simpa using h2, fun k hk => ?_⟩, ⟨g2.os, g2.tape, g2.output, g2.size, fun x hl hx => g2.block x hl fun e => hx (by cases e; rfl)⟩⟩
  by_cases e : (-1 - v).toNat = k
  · refine ⟨s, by rw [List.getElem?_set, if_pos e, if_pos (by omega)], ?_⟩
    rw [show (-1 - (k : Int)) = v by omega, show bnd β v t v = some t from if_pos rfl]
    exact hs.mono hK
  · obtain ⟨u, q1, q2⟩ := h3 k hk
    refine ⟨u, by rw [List.getElem?_set, if_neg e]; exact q1, ?_⟩
    rw [show bnd β v t (-1 - (k : Int)) = β (-1 - (k : Int)) from if_neg (by omega)]
    exact q2.mono hK

/-- The first sign of what a slice holds. -/
def headV (w : World) : Value → Int
  | .slice (some a) _ _ => match w.cell? a with
    | some (.int _ n) => n
    | _ => 0
  | _ => 0

theorem flat_nth0 (x : Tm) : nth x.flat 0 = x.sg := by obtain ⟨r, e⟩ := sg_flat x; rw [e]; rfl

theorem Wk.next {β : Bn} {x y t : Tm} (k : Wk β x y) (h0 : x.sg < 0) (hb : β x.sg = some t) : Wk β t y := by
  cases k with
  | stay h => rw [h h0] at hb; cases hb
  | go hv hb' k' =>
    have e : β _ = some t := hb
    simp only [Tm.sg] at e
    rw [hb'] at e; cases e; exact k'
theorem Wk.last {β : Bn} {x y : Tm} (k : Wk β x y) (h : ¬ (x.sg < 0 ∧ ∃ t, β x.sg = some t)) : x = y := by
  cases k with
  | stay h => rfl
  | go hv hb' k' => exact absurd ⟨hv, _, hb'⟩ h

set_option maxRecDepth 100000 in
set_option maxHeartbeats 2000000 in
theorem walk_calls {B : Nat} {β : Bn} {θ : Int → Tm} (hS : St β θ) {x y : Tm} (hW : Wk β x y) (h8 : -8 ≤ x.sg) {v : Value} {w : World} (hB : BnIs B w β) (hv : IsInts (fun b => b ≠ B) w v x.flat) :
    Calls Try.prog 205 #[.pointer (some ⟨B, 0, none⟩), v] w fun e w' => ∃ u n, e = .returned u ∧ IsInts (fun b => b ≠ B) w' u y.flat ∧ w' = w.drewN n := by
  obtain ⟨r, hr⟩ := hS.rk
  have HS := Lib.hid hS
  have HR := Lib.hid hr
  have HB := Lib.hid hB
  have hx0 : Hid (Wk β x y ∧ -8 ≤ x.sg ∧ IsInts (fun b => b ≠ B) (w.drewN 0) v x.flat) := ⟨hW, h8, hv⟩
  have hnil := fun w a l c => run_neq_slice_nil (P := Try.prog) w 24 3 a l c Try.underlying24
  clear hS hr hB hW h8 hv
  go_enter Try.func205, Try.ntmps205
  go_wp2_with fail
  go_loopw [1] (fun s wr => ∃ x', Hid (∃ n, wr = w.drewN n) ∧ Hid (Wk β x' y ∧ -8 ≤ x'.sg ∧ IsInts (fun b => b ≠ B) wr s x'.flat)) (fun s _ => if headV w s < 0 then r (headV w s) + 1 else 0)
  case atStart => exact ⟨x, ⟨0, rfl⟩, hx0.out⟩
  case round =>
    rename World => wr
    obtain ⟨x', hn, hK⟩ := hrel
    obtain ⟨sb, so, sc, rfl⟩ := hK.out.2.2.cells (flat_ne x')
    have hc := hK.out.2.2.cell (j := 0) (List.length_pos_iff.2 (flat_ne x'))
    rw [flat_nth0, Nat.add_zero] at hc
    have hpos : (0 : Int) < x'.flat.length := by have := List.length_pos_iff.2 (flat_ne x'); omega
    have hh : headV w (.slice (some ⟨sb, so, none⟩) x'.flat.length sc) = x'.sg := by
      obtain ⟨n, e⟩ := hn.out
      have : w.cell? ⟨sb, so, none⟩ = some (.int .i64 x'.sg) := by rw [e] at hc; exact hc
      simp only [headV, this]
    have h8 := hK.out.2.1
    have hLN : 0 < x'.flat.length := List.length_pos_iff.2 (flat_ne x')
    generalize x'.flat.length = L at *
    by_cases h0 : x'.sg < 0
    · obtain ⟨u, hu, hC⟩ := (show BnIs B wr β by obtain ⟨n, e⟩ := hn.out; rw [e]; exact HB.out.keep (below_drewN _ w n)).cell h8 h0
      obtain ⟨m, hm8, hzm⟩ : ∃ m : Nat, m < 8 ∧ x'.sg = -1 - (m : Int) := ⟨(-1 - x'.sg).toNat, by omega, by omega⟩
      have hmm : (m : Int) < 8 := by omega
      have hw : IntKind.i64.wrap (-1 - (-1 - (m : Int))) = m := by rw [IntWalk.i64_in _ (by omega)]; omega
      rw [show (-1 - x'.sg).toNat = m by omega] at hu
      have hd : decide (x'.sg < 0) = true := decide_eq_true h0
      cases hb : β x'.sg with
      | none =>
        rw [hb] at hC
        obtain rfl : u = .slice none 0 0 := hC
        have hy := hK.out.1.last (fun ⟨_, t, ht⟩ => by rw [hb] at ht; cases ht)
        clear hb
        rw [hzm] at hd hc h0
        go_wp2_with fail
        go_quiet (fail)
        go_wp2_with fail
        go_ret
        obtain ⟨n, e⟩ := hn.out
        refine ⟨_, n + nq, rfl, by rw [← hy]; exact hK.out.2.2.mono (.of_below (below_drewN _ wr nq)), ?_⟩
        rw [e, World.drewN_drewN]
      | some t =>
        rw [hb] at hC
        have hCt : IsInts (fun b => b ≠ B) wr u t.flat := hC
        have hnx := hK.out.1.next h0 hb
        have hrt := HR.out _ _ hb
        have hlt := (HS.out.low _ _ hb).2.1
        obtain ⟨ub, uo, uc, rfl⟩ := hCt.cells (flat_ne t)
        have HCt := Lib.hid hCt
        have htc := hCt.cell (j := 0) (List.length_pos_iff.2 (flat_ne t))
        rw [flat_nth0, Nat.add_zero] at htc
        have hrk : Hid ((if headV w (.slice (some ⟨ub, uo, none⟩) t.flat.length uc) < 0 then r (headV w (.slice (some ⟨ub, uo, none⟩) t.flat.length uc)) + 1 else 0) < r x'.sg + 1) := by
          obtain ⟨n, e⟩ := hn.out
          have : w.cell? ⟨ub, uo, none⟩ = some (.int .i64 t.sg) := by rw [e] at htc; exact htc
          simp only [Hid, headV, this]
          split
          · have := hrt t.sg (by obtain ⟨r', e⟩ := sg_flat t; rw [e]; exact List.mem_cons_self ..) (by assumption)
            omega
          · omega
        have ht8 := (hlt t.sg (by obtain ⟨r', e⟩ := sg_flat t; rw [e]; exact List.mem_cons_self ..)).1
        clear hb hrt hlt hCt hC htc
        rw [hzm] at hd hc h0 hrk
        generalize t.flat.length = M at *
        go_wp2_with fail
        go_quiet (fail)
        rename Nat => n1
        go_wp2_with fail
        go_quiet (fail)
        go_wp2_with fail
        go_roundw
        case rel =>
          obtain ⟨n, e⟩ := hn.out
          exact ⟨t, ⟨n + (n1 + nq), by rw [e, World.drewN_drewN, World.drewN_drewN, ← Nat.add_assoc]⟩, hnx, ht8, HCt.out.mono (.of_below (ext_trans (below_drewN _ wr _) (below_drewN _ _ _)))⟩
        case measure =>
          have e : (if (-1 - (m : Int)) < 0 then r (-1 - (m : Int)) + 1 else 0) = r (-1 - (m : Int)) + 1 := if_pos (by omega)
          rw [hh, hzm, e]
          exact hrk.out
    · have hd : decide (x'.sg < 0) = false := decide_eq_false h0
      have hy := hK.out.1.last (fun ⟨h, _⟩ => h0 h)
      generalize hz : x'.sg = z at *
      go_wp2_with fail
      go_quiet (fail)
      go_wp2_with fail
      go_ret
      obtain ⟨n, e⟩ := hn.out
      refine ⟨_, n + nq, rfl, by rw [← hy]; exact hK.out.2.2.mono (.of_below (below_drewN _ wr nq)), ?_⟩
      rw [e, World.drewN_drewN]

end Go.Proofs.Ytepddehodmljeaa

namespace Go.Proofs.Ytepddehodmljeaa
open Go.RowKit Go.Maps

theorem wk_rank {β : Bn} {r : Int → Nat} (hr : Rnk r β) {x y : Tm} (k : Wk β x y) : y = x ∨ (x.sg < 0 ∧ ∀ u ∈ y.flat, u < 0 → r u < r x.sg) := by
  induction k with
  | stay h => exact .inl rfl
  | @go v t y hv hb _ ih =>
    right
    refine ⟨hv, fun u hu h0 => ?_⟩
    show r u < r v
    rcases ih with e | ⟨h1, h2⟩
    · rw [e] at hu; exact hr v t hb u hu h0
    · have h3 := h2 u hu h0
      have h4 := hr v t hb t.sg (by obtain ⟨r', e⟩ := sg_flat t; rw [e]; exact List.mem_cons_self ..) h1
      omega
theorem sg_mem (t : Tm) : t.sg ∈ t.flat := by obtain ⟨r', e⟩ := sg_flat t; rw [e]; exact List.mem_cons_self ..

/-- A variable, as far as it goes: what stands there, and whether v does. -/
theorem wk_var {β : Bn} {θ : Int → Tm} (hS : St β θ) {r : Int → Nat} (hr : Rnk r β) {s : Int} (h8 : -8 ≤ s) (hs : s < 0) : ∃ y, Wk β (.leaf s) y ∧ y.ok ∧ (∀ z ∈ y.flat, -8 ≤ z ∧ z < 6) ∧ y.size ≤ 30 ∧ y.inst θ = θ s ∧
    (y.sg < 0 → y = .leaf y.sg ∧ θ s = .leaf y.sg) ∧ (0 ≤ y.sg → ∀ u ∈ y.flat, u < 0 → r u < r s) := by
  obtain ⟨y, hy⟩ := exists_wk hS (x := .leaf s) (by show ar s = 0; rw [ar_neg hs])
  obtain ⟨h1, h2, h3, h4, h5, -⟩ := hy.facts hS (by show ar s = 0; rw [ar_neg hs]) (fun z hz => by simp [Tm.flat] at hz; omega) (by simp [Tm.size])
  have e : (Tm.leaf s).inst θ = θ s := if_pos hs
  rw [e] at h4
  refine ⟨y, hy, h1, h2, h3, h4, fun h0 => ⟨(h5 h0).1, ?_⟩, fun h0 => ?_⟩
  · rw [← h4, (h5 h0).1]
    have e2 : (Tm.leaf y.sg).inst θ = θ y.sg := if_pos h0
    rw [e2, hS.res.free _ (h5 h0).2]; rfl
  · rcases wk_rank hr hy with e | ⟨-, h6⟩
    · rw [e] at h0; have h0' : 0 ≤ s := h0; omega
    · exact h6

set_option maxRecDepth 100000 in
set_option maxHeartbeats 4000000 in
theorem occurs_calls {B : Nat} {β : Bn} {θ : Int → Tm} (hS : St β θ) {r : Int → Nat} (hr : Rnk r β) {v : Int} (hv0 : v < 0) : ∀ (n : Nat) (t : Tm) (u : Value) (w : World), t.ok → (∀ s ∈ t.flat, -8 ≤ s ∧ s < 6) → t.size ≤ 30 → (∀ s ∈ t.flat, s < 0 → r s < n) →
    BnIs B w β → IsInts (fun b => b ≠ B) w u t.flat →
    Calls Try.prog 216 #[.pointer (some ⟨B, 0, none⟩), .int .i64 v, u] w fun e w' => e = .returned (.bool (decide (v ∈ (t.inst θ).flat))) ∧ Below w.heap.size w w'
  | n, t, u, w, ht, hs, hl, hn, hB, hu => by
    obtain ⟨ub, uo, uc, rfl⟩ := hu.cells (flat_ne t)
    have HT := Lib.hid (And.intro ht (And.intro hs hn))
    have HB := Lib.hid hB
    have HU := Lib.hid hu
    have HS := Lib.hid hS
    have HR := Lib.hid hr
    have hLN : (t.flat.length : Int) ≤ 30 := by rw [size_flat]; omega
    have hfin : Hid (∀ b, (v ∈ (t.inst θ).flat ↔ b = true) → decide (v ∈ (t.inst θ).flat) = b) := fun b h => by
      cases b with
      | true => exact decide_eq_true (h.2 rfl)
      | false => exact decide_eq_false fun k => by have := h.1 k; cases this
    have hmem : Hid (v ∈ (t.inst θ).flat ↔ ∃ s, s < 0 ∧ s ∈ t.flat ∧ v ∈ (θ s).flat) := mem_inst hv0 ht
    have hrec : Hid (∀ m, m < n → ∀ (y : Tm) (u : Value) (w : World), y.ok → (∀ s ∈ y.flat, -8 ≤ s ∧ s < 6) → y.size ≤ 30 → (∀ s ∈ y.flat, s < 0 → r s < m) → BnIs B w β → IsInts (fun b => b ≠ B) w u y.flat →
        Calls Try.prog 216 #[.pointer (some ⟨B, 0, none⟩), .int .i64 v, u] w fun e w' => e = .returned (.bool (decide (v ∈ (y.inst θ).flat))) ∧ Below w.heap.size w w') := fun m hm y u w => occurs_calls hS hr hv0 m y u w
    clear ht hs hl hn hB hu hS hr
    go_enter Try.func216, Try.ntmps216
    go_wp2_with fail
    go_loopw [12] (fun s wr => ∃ k : Nat, k ≤ t.flat.length ∧ s = .int .i64 k ∧ Hid (Below w.heap.size w wr) ∧ Hid (∀ j, j < k → nth t.flat j < 0 → v ∉ (θ (nth t.flat j)).flat)) (fun s _ => t.flat.length - (intOf s).toNat)
    case atStart => exact ⟨0, Nat.zero_le _, rfl, .refl _ _, fun _ h => by omega⟩
    case round =>
      rename World => wr
      obtain ⟨k, hk, rfl, hBw, hno⟩ := hrel
      by_cases hlk : k < t.flat.length
      · have hkk : (k : Int) < t.flat.length := by omega
        have hk30 : (k : Int) ≤ 30 := by omega
        have hc := (HU.out.mono (.of_below hBw.out)).cell hlk
        have hmk := nth_mem hlk
        by_cases h0 : 0 ≤ nth t.flat k
        · have hnk : Hid (nth t.flat k < 0 → v ∉ (θ (nth t.flat k)).flat) := fun h => by omega
          go_wp2_with fail
          go_roundw
          case rel =>
            refine ⟨k + 1, by omega, by go_num, hBw.out, fun j hj h => ?_⟩
            by_cases e : j = k
            · subst e; exact hnk.out h
            · exact hno.out j (by omega) h
          case measure => simp [intOf]; omega
        · have h0' : nth t.flat k < 0 := by omega
          obtain ⟨y, hy, hyo, hys, hyl, hyi, hyv, hyr⟩ := wk_var HS.out HR.out (HT.out.2.1 _ hmk).1 h0'
          have HY := Lib.hid (And.intro hyo (And.intro hys (And.intro hyl (And.intro hyv hyr))))
          have hw2 : Hid (BnIs B (wr.alloc (.cells #[.int .i64 (nth t.flat k)] 3)) β) := (HB.out.keep hBw.out).keep (below_alloc _ _)
          have hwk := Lib.hid (walk_calls HS.out hy (HT.out.2.1 _ hmk).1 hw2.out (v := .slice (some ⟨wr.heap.size, 0, none⟩) 1 1) ((ints_lit wr wr.heap.size [nth t.flat k] 3 (Nat.le_refl _) (by simp)).mono (.weak fun b hb e => by have h1 : wr.heap.size ≤ b := hb; have := (HB.out.keep hBw.out).lt; omega)))
          have hsub := Lib.hid hyi
          have hmk' := Lib.hid hmk
          clear hyo hys hyl hyv hyr hy hyi hmk
          go_wp2_with fail
          refine hwk.out.mono ?_
          rintro e w2 ⟨u2, n2, rfl, hu2, rfl⟩
          have hB3 := Lib.hid (ext_trans hBw.out (ext_trans (below_alloc wr (.cells #[.int .i64 (nth t.flat k)] 3)) (below_drewN _ _ n2)))
          have hbn := Lib.hid (HB.out.keep hB3.out)
          generalize (wr.alloc (.cells #[.int .i64 (nth t.flat k)] 3)).drewN n2 = w2 at *
          obtain ⟨yb, yo, yc, rfl⟩ := hu2.cells (flat_ne y)
          have hc2 := hu2.cell (j := 0) (List.length_pos_iff.2 (flat_ne y))
          rw [flat_nth0, Nat.add_zero] at hc2
          have hmp : 0 < y.flat.length := List.length_pos_iff.2 (flat_ne y)
          have HU2 := Lib.hid hu2
          clear hu2 hc hwk hw2
          have hyes : Hid (v ∈ (θ (nth t.flat k)).flat → decide (v ∈ (t.inst θ).flat) = true) := fun h => decide_eq_true (hmem.out.2 ⟨_, h0', hmk'.out, h⟩)
          have hnext : Hid (v ∉ (θ (nth t.flat k)).flat → ∀ j, j < k + 1 → nth t.flat j < 0 → v ∉ (θ (nth t.flat j)).flat) := fun hv j hj h => by
            by_cases e : j = k
            · subst e; exact hv
            · exact hno.out j (by omega) h
          by_cases hyv : y.sg < 0
          · have hys := HY.out.2.2.2.1 hyv
            by_cases hev : y.sg = v
            · have hin : Hid (v ∈ (θ (nth t.flat k)).flat) := by rw [Hid, hys.2, hev]; simp [Tm.flat]
              have hbe : (y.sg == v) = true := by simpa using hev
              clear hev
              generalize y.flat.length = M at *
              generalize y.sg = z at *
              go_wp2_with fail
              go_ret
              exact ⟨congrArg (fun c => Ending.returned (.bool c)) (hyes.out hin.out).symm, hB3.out⟩
            · have hin : Hid (v ∉ (θ (nth t.flat k)).flat) := by rw [Hid, hys.2]; simp [Tm.flat]; exact fun e => hev e.symm
              have hbe : (y.sg == v) = false := by simpa using hev
              have hge : decide (y.sg ≥ 0) = false := decide_eq_false (by omega)
              clear hev
              generalize y.flat.length = M at *
              generalize y.sg = z at *
              go_wp2_with fail
              go_roundw
              case rel => exact ⟨k + 1, by omega, by go_num, hB3.out, hnext.out hin.out⟩
              case measure => simp [intOf]; omega
          · have hbe : (y.sg == v) = false := by simp; omega
            have hge : decide (y.sg ≥ 0) = true := decide_eq_true (by omega)
            have hvv : 0 ≤ y.sg := by omega
            have hrk := HY.out.2.2.2.2 (by omega)
            have hcall := Lib.hid (hrec.out (r (nth t.flat k)) (HT.out.2.2 _ hmk'.out h0') y _ w2 HY.out.1 HY.out.2.1 HY.out.2.2.1 hrk hbn.out HU2.out)
            rw [hsub.out] at hcall
            clear hrk hyv
            generalize y.flat.length = M at *
            generalize y.sg = z at *
            cases hg : decide (v ∈ (θ (nth t.flat k)).flat)
            · rw [hg] at hcall
              have hin := Lib.hid (of_decide_eq_false hg)
              clear hg
              go_wp2_with (go_at_call 216; refine hcall.out.mono ?_; rintro e w3 ⟨rfl, hB4⟩)
              go_roundw
              case rel => exact ⟨k + 1, by omega, by go_num, ext_trans hB3.out hB4, hnext.out hin.out⟩
              case measure => simp [intOf]; omega
            · rw [hg] at hcall
              have hin := Lib.hid (of_decide_eq_true hg)
              clear hg
              go_wp2_with (go_at_call 216; refine hcall.out.mono ?_; rintro e w3 ⟨rfl, hB4⟩)
              go_ret
              exact ⟨congrArg (fun c => Ending.returned (.bool c)) (hyes.out hin.out).symm, ext_trans hB3.out hB4⟩
      · obtain rfl : k = t.flat.length := by omega
        go_wp2_with fail
        go_ret
        refine ⟨congrArg (fun c => Ending.returned (.bool c)) (hfin.out false ?_).symm, hBw.out⟩
        rw [hmem.out]
        refine ⟨?_, fun e => by cases e⟩
        rintro ⟨s, h1, h2, h3⟩
        obtain ⟨j, hj, rfl⟩ := List.getElem_of_mem h2
        exact absurd h3 (by rw [← nth_eq hj]; exact hno.out j hj (by rw [nth_eq hj]; exact h1))
termination_by n => n

end Go.Proofs.Ytepddehodmljeaa

namespace Go.Proofs.Ytepddehodmljeaa
open Go.RowKit Go.Maps

/-! ### Part by part, plain -/
def MetP (β : Bn) (l : List (Tm × Tm)) (is : Bool) (β' : Bn) : Prop :=
  if is = true then (β' = β ∨ fr β' < fr β) ∧ (∃ θ', St β' θ') ∧ ∀ τ, Sat τ β' ↔ Sat τ β ∧ ∀ p ∈ l, p.1.inst τ = p.2.inst τ
  else ∀ τ, Sat τ β → ¬ ∀ p ∈ l, p.1.inst τ = p.2.inst τ
theorem metP_nil {β : Bn} {θ : Int → Tm} (h : St β θ) : MetP β [] true β := by
  unfold MetP; rw [if_pos rfl]
  exact ⟨.inl rfl, ⟨θ, h⟩, fun τ => ⟨fun h => ⟨h, fun p hp => by simp at hp⟩, fun h => h.1⟩⟩
theorem metP_snoc {β β' β'' : Bn} {l : List (Tm × Tm)} {x y : Tm} {is : Bool} (h : MetP β l true β') (k : Met β' x y is β'') : MetP β (l ++ [(x, y)]) is β'' := by
  unfold MetP at h ⊢
  unfold Met at k
  rw [if_pos rfl] at h
  have hs : ∀ τ : Int → Tm, (∀ p ∈ l ++ [(x, y)], p.1.inst τ = p.2.inst τ) ↔ (∀ p ∈ l, p.1.inst τ = p.2.inst τ) ∧ x.inst τ = y.inst τ := by
    intro τ
    constructor
    · intro q
      exact ⟨fun p hp => q p (by simp [hp]), q (x, y) (by simp)⟩
    · rintro ⟨q1, q2⟩ p hp
      rcases List.mem_append.1 hp with hp | hp
      · exact q1 p hp
      · simp at hp; subst hp; exact q2
  cases is with
  | true =>
    rw [if_pos rfl] at k ⊢
    refine ⟨?_, k.2.1, fun τ => by rw [k.2.2, h.2.2, hs, and_assoc]⟩
    rcases k.1 with rfl | k1
    · exact h.1
    · rcases h.1 with rfl | h1
      · exact .inr k1
      · exact .inr (by omega)
  | false =>
    rw [if_neg (by decide)] at k ⊢
    intro τ hτ q
    rw [hs] at q
    exact k τ ((h.2.2 τ).2 ⟨hτ, q.1⟩) q.2
theorem metP_no {β β' : Bn} {l m : List (Tm × Tm)} (h : MetP β l false β') : MetP β (l ++ m) false β' := by
  unfold MetP at h ⊢
  rw [if_neg (by decide)] at h ⊢
  exact fun τ hτ k => h τ hτ fun p hp => k p (by simp [hp])

theorem psT_range (t : List Int) (k : Nat) : psT t k = (List.range (ar (nth t k))).map (psN t k) := by
  have := ar_le (nth t k)
  rcases (by omega : ar (nth t k) = 0 ∨ ar (nth t k) = 1 ∨ ar (nth t k) = 2) with h | h | h <;> simp [psT, h, psN, List.range_succ]
theorem inst_parts_eq {x y : Tm} {n : Nat} {f g : Nat → Tm} (hn : ar x.sg = n) (hx : x.ok) (hy : y.ok) (h0 : 0 ≤ x.sg) (hs : x.sg = y.sg) (hf : x.parts = (List.range n).map f) (hg : y.parts = (List.range n).map g) (τ : Int → Tm) :
    x.inst τ = y.inst τ ↔ ∀ p ∈ (List.range n).map fun m => (f m, g m), p.1.inst τ = p.2.inst τ := by
  cases x with
  | leaf s =>
    have h1 : ar s = 0 := hx
    have h2 : ar s = n := hn
    rw [h1] at h2; subst h2
    cases y with
    | leaf t => have : s = t := hs; subst this; simp
    | un t b => have : s = t := hs; subst this; have := hy.1; omega
    | bin t b c => have : s = t := hs; subst this; have := hy.1; omega
  | un s a =>
    have h2 : ar s = n := hn
    rw [hx.1] at h2; subst h2
    cases y with
    | leaf t => have : s = t := hs; subst this; have h3 : ar s = 0 := hy; have := hx.1; omega
    | bin t b c => have : s = t := hs; subst this; have := hy.1; have := hx.1; omega
    | un t b =>
      have : s = t := hs
      subst this
      simp [Tm.parts, List.range_succ] at hf hg
      subst hf hg
      show Tm.un s _ = Tm.un s _ ↔ _
      simp [List.range_succ]
  | bin s a b =>
    have h2 : ar s = n := hn
    rw [hx.1] at h2; subst h2
    cases y with
    | leaf t => have : s = t := hs; subst this; have h3 : ar s = 0 := hy; have := hx.1; omega
    | un t c => have : s = t := hs; subst this; have := hy.1; have := hx.1; omega
    | bin t c d =>
      have : s = t := hs
      subst this
      simp [Tm.parts, List.range_succ] at hf hg
      obtain ⟨rfl, rfl⟩ := hf
      obtain ⟨rfl, rfl⟩ := hg
      show Tm.bin s _ _ = Tm.bin s _ _ ↔ _
      simp [List.range_succ]
theorem met_of_parts {β β' : Bn} {x y : Tm} {n : Nat} {f g : Nat → Tm} {is : Bool} (hn : ar x.sg = n) (hx : x.ok) (hy : y.ok) (h0 : 0 ≤ x.sg) (hs : x.sg = y.sg) (hf : x.parts = (List.range n).map f) (hg : y.parts = (List.range n).map g)
    (h : MetP β ((List.range n).map fun m => (f m, g m)) is β') : Met β x y is β' := by
  have e := inst_parts_eq hn hx hy h0 hs hf hg
  unfold MetP at h
  unfold Met
  cases is with
  | true => rw [if_pos rfl] at h ⊢; exact ⟨h.1, h.2.1, fun τ => by rw [h.2.2, e]⟩
  | false => rw [if_neg (by decide)] at h ⊢; exact fun τ hτ k => h τ hτ ((e τ).1 k)
theorem part_inst_lt (θ : Int → Tm) {x p : Tm} (h : p ∈ x.parts) : (p.inst θ).size < (x.inst θ).size := by
  cases x with
  | leaf s => simp [Tm.parts] at h
  | un s a => simp [Tm.parts] at h; subst h; show _ < _ + 1; omega
  | bin s a b => simp [Tm.parts] at h; rcases h with rfl | rfl <;> (show _ < _ + _ + 1; omega)

/-! ### bind -/
set_option maxRecDepth 100000 in
set_option maxHeartbeats 2000000 in
theorem bind_calls {B : Nat} {β : Bn} {θ : Int → Tm} (hS : St β θ) {v : Int} (h8 : -8 ≤ v) (hv : v < 0) {t : Tm} (ht : t.ok) (hs : ∀ s ∈ t.flat, -8 ≤ s ∧ s < 6) (hl : t.size ≤ 30) {u : Value} {w : World} (hB : BnIs B w β) (hu : IsInts (fun b => b ≠ B) w u t.flat) :
    Calls Try.prog 206 #[.pointer (some ⟨B, 0, none⟩), .int .i64 v, u] w fun e w' => ∃ is, e = .returned (.bool is) ∧ is = !decide (v ∈ (t.inst θ).flat) ∧ (is = true → BnIs B w' (bnd β v t)) ∧ Keeps (fun b => b = B) w w' := by
  obtain ⟨ub, uo, uc, hue⟩ := hu.cells (flat_ne t)
  obtain ⟨r, hr⟩ := hS.rk
  obtain ⟨n, hn⟩ : ∃ n, ∀ s ∈ t.flat, s < 0 → r s < n := ⟨(t.flat.map r).sum + 1, fun s h _ => by have := le_sum (f := r) t.flat s h; omega⟩
  have hocc := Lib.hid (occurs_calls hS hr hv n t u w ht hs hl hn hB hu)
  have HB := Lib.hid hB
  have HU := Lib.hid hu
  obtain ⟨m, hm8, hzm⟩ : ∃ m : Nat, m < 8 ∧ v = -1 - (m : Int) := ⟨(-1 - v).toNat, by omega, by omega⟩
  have hmm : (m : Int) < 8 := by omega
  have hw : IntKind.i64.wrap (-1 - (-1 - (m : Int))) = m := by rw [IntWalk.i64_in _ (by omega)]; omega
  have hst : Hid (∀ w', Below w.heap.size w w' → BnIs B (w'.setCell ⟨B, m, none⟩ u) (bnd β v t) ∧ Keeps (fun b => b = B) w (w'.setCell ⟨B, m, none⟩ u)) := fun w' hb => by
    obtain ⟨h1, h2⟩ := (hB.keep hb).store h8 hv (hu.mono (.of_below hb))
    rw [show (-1 - v).toNat = m by omega] at h1 h2
    exact ⟨h1, (Keeps.of_below hb).trans h2⟩
  have hcl : Hid (∀ w', Below w.heap.size w w' → (∃ q, w'.cell? ⟨B, m, none⟩ = some q) ∧ w'.frozen? ⟨B, m, none⟩ = false) := fun w' hb => by
    obtain ⟨q, h1, -⟩ := (hB.keep hb).cell h8 hv
    rw [show (-1 - v).toNat = m by omega] at h1
    exact ⟨⟨q, h1⟩, (hB.keep hb).frozen m⟩
  clear hB hu hS hr hn ht hs hl HU HB
  subst hue
  generalize t.flat.length = M at *
  cases hd : decide (v ∈ (t.inst θ).flat)
  · rw [hd] at hocc
    clear hd
    subst hzm
    go_enter Try.func206, Try.ntmps206
    go_wp2_with fail
    refine hocc.out.mono ?_
    rintro e w' ⟨rfl, hb⟩
    obtain ⟨⟨q, hq⟩, hf⟩ := hcl.out w' hb
    have HS := Lib.hid (hst.out w' hb)
    go_wp2_with fail
    go_ret
    exact ⟨true, rfl, rfl, fun _ => HS.out.1, HS.out.2⟩
  · rw [hd] at hocc
    clear hd hzm hw hmm hst hcl
    go_enter Try.func206, Try.ntmps206
    go_wp2_with fail
    refine hocc.out.mono ?_
    rintro e w' ⟨rfl, hb⟩
    go_wp2_with fail
    go_ret
    exact ⟨false, rfl, rfl, (fun h => by cases h), .of_below hb⟩

end Go.Proofs.Ytepddehodmljeaa

namespace Go.Proofs.Ytepddehodmljeaa
open Go.RowKit Go.Maps

/-- What meet does, of two terms. -/
def MetE (B : Nat) (β : Bn) (x y : Tm) (w : World) (e : Ending) (w' : World) : Prop := ∃ is β', e = .returned (.bool is) ∧ Met β x y is β' ∧ (is = true → BnIs B w' β') ∧ Keeps (fun b => b = B) w w'
def MeetC (B : Nat) (β : Bn) (x y : Tm) : Prop := ∀ u1 u2 w, BnIs B w β → IsInts (fun b => b ≠ B) w u1 x.flat → IsInts (fun b => b ≠ B) w u2 y.flat →
  Calls Try.prog 187 #[.pointer (some ⟨B, 0, none⟩), u1, u2] w (MetE B β x y w)

theorem chk_flat {x : Tm} (h : x.ok) (hs : ∀ s ∈ x.flat, -8 ≤ s ∧ s < 6) (hl : x.size ≤ 30) : chk x.flat = 0 ∧ tmOf x.flat = x :=
  ⟨chk_of (by rw [size_flat]; exact hl) hs (need_tm h), tmOf_flat h⟩

set_option maxRecDepth 100000 in
set_option maxHeartbeats 4000000 in
theorem meet_step {B n m : Nat} (ihn : ∀ n', n' < n → ∀ m β θ x y, St β θ → RtP (x, y) → fr β < n' → (x.inst θ).size < m → MeetC B β x y)
    (ihm : ∀ m', m' < m → ∀ β θ x y, St β θ → RtP (x, y) → fr β < n → (x.inst θ).size < m' → MeetC B β x y)
    {β : Bn} {θ : Int → Tm} {x y : Tm} (hS : St β θ) (hR : RtP (x, y)) (hn : fr β < n) (hm : (x.inst θ).size < m) : MeetC B β x y := by
  intro u1 u2 w hB h1 h2
  obtain ⟨a1, a2, a3, a4, a5, a6⟩ := hR
  dsimp only at a1 a2 a3 a4 a5 a6
  obtain ⟨x', kx⟩ := exists_wk hS a1
  obtain ⟨y', ky⟩ := exists_wk hS a2
  obtain ⟨x1, x2, x3, x4, x5, x6⟩ := kx.facts hS a1 a3 a5
  obtain ⟨y1, y2, y3, y4, y5, y6⟩ := ky.facts hS a2 a4 a6
  have hmet : Hid (∀ is β', Met β x' y' is β' → Met β x y is β') := fun is β' k => met_walk x6 y6 k
  have hwx := Lib.hid (walk_calls hS kx (a3 _ (sg_mem x)).1 hB h1)
  have hwy := Lib.hid fun k => walk_calls hS ky (a4 _ (sg_mem y)).1 (hB.keep (below_drewN _ w k)) (h2.mono (.of_below (below_drewN _ w k)))
  have HX := Lib.hid (And.intro x1 (And.intro x2 (And.intro x3 (And.intro x4 x5))))
  have HY := Lib.hid (And.intro y1 (And.intro y2 (And.intro y3 (And.intro y4 y5))))
  have HS := Lib.hid hS
  have HB := Lib.hid hB
  have HN := Lib.hid hn
  have HM := Lib.hid hm
  have H1 := Lib.hid ihn
  have H2 := Lib.hid ihm
  clear x1 x2 x3 x4 x5 x6 y1 y2 y3 y4 y5 y6 kx ky hS hB h1 h2 hn hm ihn ihm a1 a2 a3 a4 a5 a6
  go_enter Try.func187, Try.ntmps187
  go_wp2_with fail
  refine hwx.out.mono ?_
  rintro e w' ⟨ux, k1, rfl, hx, rfl⟩
  go_wp2_with fail
  refine (hwy.out k1).mono ?_
  rintro e w' ⟨uy, k2, rfl, hy, rfl⟩
  have hB2 := Lib.hid ((HB.out.keep (below_drewN _ w k1)).keep (below_drewN _ _ k2))
  have hW2 := Lib.hid (ext_trans (below_drewN _ w k1) (below_drewN _ _ k2))
  have hx2 := hx.mono (.of_below (below_drewN _ _ k2))
  generalize (w.drewN k1).drewN k2 = w2 at *
  obtain ⟨xb, xo, xc, rfl⟩ := hx2.cells (flat_ne x')
  obtain ⟨yb, yo, yc, rfl⟩ := hy.cells (flat_ne y')
  have c1 := hx2.cell (j := 0) (List.length_pos_iff.2 (flat_ne x'))
  have c2 := hy.cell (j := 0) (List.length_pos_iff.2 (flat_ne y'))
  rw [flat_nth0, Nat.add_zero] at c1 c2
  have hLx : 0 < x'.flat.length := List.length_pos_iff.2 (flat_ne x')
  have hLy : 0 < y'.flat.length := List.length_pos_iff.2 (flat_ne y')
  have hx3 := Lib.hid fun k => hx2.mono (.of_below (below_drewN _ w2 k))
  have hy3 := Lib.hid fun k => hy.mono (.of_below (below_drewN _ w2 k))
  have hB3 := Lib.hid fun k => hB2.out.keep (below_drewN _ w2 k)
  have hW3 := Lib.hid fun k => ext_trans hW2.out (below_drewN _ w2 k)
  clear hx hx2 hy hwx hwy hB2 hW2
  have hsx : Hid (-8 ≤ x'.sg ∧ x'.sg < 6) := HX.out.2.1 _ (sg_mem x')
  have hsy : Hid (-8 ≤ y'.sg ∧ y'.sg < 6) := HY.out.2.1 _ (sg_mem y')
  generalize hlx : x'.flat.length = Lx at *
  generalize hly : y'.flat.length = Ly at *
  have hLX := Lib.hid hlx
  have hLY := Lib.hid hly
  clear hlx hly
  generalize hqx : x'.sg = sx at *
  generalize hqy : y'.sg = sy at *
  have hQX := Lib.hid hqx
  have hQY := Lib.hid hqy
  clear hqx hqy
  go_wp2_with fail
  go_quiet (fail)
  have hx4 := Lib.hid (hx3.out nq)
  have hy4 := Lib.hid (hy3.out nq)
  have hB4 := Lib.hid (hB3.out nq)
  have hW4 := Lib.hid (hW3.out nq)
  clear hx3 hy3 hB3 hW3 c1 c2
  generalize w2.drewN nq = w3 at *
  by_cases hv : sx < 0
  · have e1 := Lib.hid (HX.out.2.2.2.2 hv)
    have dv : decide (sx < 0) = true := decide_eq_true hv
    by_cases hw : sy < 0
    · have e2 := Lib.hid (HY.out.2.2.2.2 hw)
      have dw : decide (sy < 0) = true := decide_eq_true hw
      rcases (by omega : sx = sy ∨ sx < sy ∨ sy < sx) with e | hl | hl
      · subst e
        go_wp2_with fail
        go_ret
        refine ⟨true, β, rfl, hmet.out _ _ ?_, fun _ => hB4.out, .of_below hW4.out⟩
        rw [e1.out.1, e2.out.1]
        exact met_same HS.out _
      · obtain ⟨k, hk8, rfl⟩ : ∃ k : Nat, k < 8 ∧ sx = -1 - (k : Int) := ⟨(-1 - sx).toNat, by have := hsx.out; omega, by omega⟩
        have hkk : (k : Int) < 8 := by omega
        have hmin : min (-1 - (k : Int)) sy = -1 - (k : Int) := by omega
        have hmax : max (-1 - (k : Int)) sy = sy := by omega
        have hwr : IntKind.i64.wrap (-1 - (-1 - (k : Int))) = k := by rw [IntWalk.i64_in _ (by omega)]; omega
        have hst := Lib.hid ((hB4.out.keep (below_alloc w3 (.cells #[.int .i64 sy] 3))).store hsx.out.1 hv (t := .leaf sy) (s := .slice (some ⟨w3.heap.size, 0, none⟩) 1 1) ((ints_lit w3 w3.heap.size [sy] 3 (Nat.le_refl _) (by simp)).mono (.weak fun b hb e => by have h1 : w3.heap.size ≤ b := hb; have := hB4.out.lt; omega)))
        rw [show (-1 - (-1 - (k : Int))).toNat = k by omega] at hst
        obtain ⟨q, hq, -⟩ := (hB4.out.keep (below_alloc w3 (.cells #[.int .i64 sy] 3))).cell hsx.out.1 hv
        rw [show (-1 - (-1 - (k : Int))).toNat = k by omega] at hq
        have hf := (hB4.out.keep (below_alloc w3 (.cells #[.int .i64 sy] 3))).frozen k
        have hKW := Lib.hid (ext_trans hW4.out (below_alloc w3 (.cells #[.int .i64 sy] 3)))
        have hmv := Lib.hid (met_vars HS.out hsx.out.1 hl hw e1.out.2 e2.out.2)
        go_wp2_with fail
        go_ret
        refine ⟨true, _, rfl, hmet.out _ _ ?_, fun _ => hst.out.1, (Keeps.of_below hKW.out).trans hst.out.2⟩
        rw [e1.out.1, e2.out.1]
        exact hmv.out
      · obtain ⟨k, hk8, rfl⟩ : ∃ k : Nat, k < 8 ∧ sy = -1 - (k : Int) := ⟨(-1 - sy).toNat, by have := hsy.out; omega, by omega⟩
        have hkk : (k : Int) < 8 := by omega
        have hmin : min sx (-1 - (k : Int)) = -1 - (k : Int) := by omega
        have hmax : max sx (-1 - (k : Int)) = sx := by omega
        have hne : (sx == -1 - (k : Int)) = false := by simp; omega
        have hwr : IntKind.i64.wrap (-1 - (-1 - (k : Int))) = k := by rw [IntWalk.i64_in _ (by omega)]; omega
        have hst := Lib.hid ((hB4.out.keep (below_alloc w3 (.cells #[.int .i64 sx] 3))).store hsy.out.1 hw (t := .leaf sx) (s := .slice (some ⟨w3.heap.size, 0, none⟩) 1 1) ((ints_lit w3 w3.heap.size [sx] 3 (Nat.le_refl _) (by simp)).mono (.weak fun b hb e => by have h1 : w3.heap.size ≤ b := hb; have := hB4.out.lt; omega)))
        rw [show (-1 - (-1 - (k : Int))).toNat = k by omega] at hst
        obtain ⟨q, hq, -⟩ := (hB4.out.keep (below_alloc w3 (.cells #[.int .i64 sx] 3))).cell hsy.out.1 hw
        rw [show (-1 - (-1 - (k : Int))).toNat = k by omega] at hq
        have hf := (hB4.out.keep (below_alloc w3 (.cells #[.int .i64 sx] 3))).frozen k
        have hKW := Lib.hid (ext_trans hW4.out (below_alloc w3 (.cells #[.int .i64 sx] 3)))
        have hmv := Lib.hid (met_symm (met_vars HS.out hsy.out.1 hl hv e2.out.2 e1.out.2))
        go_wp2_with fail
        go_ret
        refine ⟨true, _, rfl, hmet.out _ _ ?_, fun _ => hst.out.1, (Keeps.of_below hKW.out).trans hst.out.2⟩
        rw [e1.out.1, e2.out.1]
        exact hmv.out
    · have dw : decide (sy < 0) = false := decide_eq_false hw
      have hbc := Lib.hid (bind_calls HS.out hsx.out.1 hv HY.out.1 HY.out.2.1 HY.out.2.2.1 hB4.out hy4.out)
      have hQ : Hid (∀ is, is = !decide (sx ∈ (y'.inst θ).flat) → Met β x' y' is (bnd β sx y')) := fun is e => by
        rw [e1.out.1]
        by_cases ho : sx ∈ (y'.inst θ).flat
        · rw [e, decide_eq_true ho]
          exact met_occurs HS.out hv HY.out.1 (by rw [hQY.out]; omega) ho _
        · rw [e, decide_eq_false ho]
          exact met_bind HS.out hsx.out.1 hv e1.out.2 HY.out.1 HY.out.2.1 HY.out.2.2.1 ho fun v e h0 => by have := hQY.out; rw [e] at this; have : v = sy := this; omega
      go_wp2_with fail
      refine hbc.out.mono ?_
      rintro e w4 ⟨is, rfl, his', hBn, hKp⟩
      have his := Lib.hid his'
      clear his'
      go_wp2_with fail
      go_ret
      exact ⟨is, _, rfl, hmet.out _ _ (hQ.out _ his.out), hBn, (Keeps.of_below hW4.out).trans hKp⟩
  · have dv : decide (sx < 0) = false := decide_eq_false hv
    by_cases hw : sy < 0
    · have e2 := Lib.hid (HY.out.2.2.2.2 hw)
      have dw : decide (sy < 0) = true := decide_eq_true hw
      have hbc := Lib.hid (bind_calls HS.out hsy.out.1 hw HX.out.1 HX.out.2.1 HX.out.2.2.1 hB4.out hx4.out)
      have hQ : Hid (∀ is, is = !decide (sy ∈ (x'.inst θ).flat) → Met β x' y' is (bnd β sy x')) := fun is e => by
        rw [e2.out.1]
        refine met_symm ?_
        by_cases ho : sy ∈ (x'.inst θ).flat
        · rw [e, decide_eq_true ho]
          exact met_occurs HS.out hw HX.out.1 (by rw [hQX.out]; omega) ho _
        · rw [e, decide_eq_false ho]
          exact met_bind HS.out hsy.out.1 hw e2.out.2 HX.out.1 HX.out.2.1 HX.out.2.2.1 ho fun v e h0 => by have := hQX.out; rw [e] at this; have : v = sx := this; omega
      go_wp2_with fail
      refine hbc.out.mono ?_
      rintro e w4 ⟨is, rfl, his', hBn, hKp⟩
      have his := Lib.hid his'
      clear his'
      go_wp2_with fail
      go_ret
      exact ⟨is, _, rfl, hmet.out _ _ (hQ.out _ his.out), hBn, (Keeps.of_below hW4.out).trans hKp⟩
    · have dw : decide (sy < 0) = false := decide_eq_false hw
      by_cases hne : sx = sy
      · subst hne
        have hne2 : (sx != sx) = false := by simp
        obtain ⟨cx1, cx2⟩ := chk_flat HX.out.1 HX.out.2.1 HX.out.2.2.1
        obtain ⟨cy1, cy2⟩ := chk_flat HY.out.1 HY.out.2.1 HY.out.2.2.1
        have nx : nth x'.flat 0 = sx := by rw [flat_nth0]; exact hQX.out
        have ny : nth y'.flat 0 = sx := by rw [flat_nth0]; exact hQY.out
        obtain ⟨N, hN⟩ : ∃ N, ar sx = N := ⟨_, rfl⟩
        have hN2 : N ≤ 2 := by rw [← hN]; exact ar_le _
        obtain ⟨f, hf⟩ : ∃ f : Nat → Tm, ∀ q, f q = x'.sub (psN x'.flat 0 q) := ⟨_, fun _ => rfl⟩
        obtain ⟨g, hg⟩ : ∃ g : Nat → Tm, ∀ q, g q = y'.sub (psN y'.flat 0 q) := ⟨_, fun _ => rfl⟩
        have l0x : 0 < x'.flat.length := List.length_pos_iff.2 (flat_ne x')
        have l0y : 0 < y'.flat.length := List.length_pos_iff.2 (flat_ne y')
        have hpx : x'.parts = (List.range N).map f := by
          have := parts_ps cx1 l0x
          rw [cx2, sub_zero, psT_range, nx, hN, List.map_map] at this
          rw [this]; exact List.map_congr_left fun q _ => (hf q).symm
        have hpy : y'.parts = (List.range N).map g := by
          have := parts_ps cy1 l0y
          rw [cy2, sub_zero, psT_range, ny, hN, List.map_map] at this
          rw [this]; exact List.map_congr_left fun q _ => (hg q).symm
        have hfin : Hid (∀ is β', MetP β ((List.range N).map fun q => (f q, g q)) is β' → Met β x y is β') := fun is β' k =>
          hmet.out _ _ (met_of_parts (by rw [hQX.out]; exact hN) HX.out.1 HY.out.1 (by rw [hQX.out]; omega) (by rw [hQX.out, hQY.out]) hpx hpy k)
        have hno : Hid (∀ q β', q < N → MetP β (((List.range q).map fun q => (f q, g q)) ++ [(f q, g q)]) false β' → Met β x y false β') := fun q β' hq k => by
          refine hfin.out _ _ ?_
          have e : (List.range N).map (fun q => (f q, g q)) = (((List.range q).map fun q => (f q, g q)) ++ [(f q, g q)]) ++ ((List.range N).drop (q + 1)).map fun q => (f q, g q) := by
            have h1 : (List.range N).take (q + 1) = List.range (q + 1) := by rw [List.take_range, Nat.min_eq_left (by omega)]
            conv => lhs; rw [← List.take_append_drop (q + 1) (List.range N), h1, List.map_append]
            rw [List.range_succ, List.map_append]; rfl
          rw [e]; exact metP_no k
        have hsnoc : Hid (∀ q, ((List.range q).map fun q => (f q, g q)) ++ [(f q, g q)] = (List.range (q + 1)).map fun q => (f q, g q)) := fun q => by rw [List.range_succ, List.map_append]; rfl
        have hpart : Hid (∀ q, q < N → ∀ W, Keeps (fun b => b = B) w3 W → ∃ v1 v2, Calls Try.prog 117 #[.slice (some ⟨xb, xo, none⟩) Lx xc, .int .i64 (atN x'.flat 0 q)] W (fun e w' => e = .returned v1 ∧ W = w') ∧
            Calls Try.prog 117 #[.slice (some ⟨yb, yo, none⟩) Ly yc, .int .i64 (atN y'.flat 0 q)] W (fun e w' => e = .returned v2 ∧ W = w') ∧ IsInts (fun b => b ≠ B) W v1 (f q).flat ∧ IsInts (fun b => b ≠ B) W v2 (g q).flat ∧ RtP (f q, g q) ∧ ((f q).inst θ).size < (x'.inst θ).size) := fun q hq W hK => by
          have hSk : Sok (fun b => b ≠ B) (fun b => b ≠ B) w3 W := ⟨hK.size, fun b hb hl => ⟨hb, hK.block b hl hb⟩⟩
          have i1 := hx4.out.mono hSk
          have i2 := hy4.out.mono hSk
          rw [← hLX.out] at i1 ⊢
          rw [← hLY.out] at i2 ⊢
          have p1 := (psN_lt cx1 l0x (by rw [nx, hN]; exact hq)).1
          have p2 := (psN_lt cy1 l0y (by rw [ny, hN]; exact hq)).1
          have g1 := At_eq x'.flat cx1 xb xo xc _ W i1.any p1
          have g2 := At_eq y'.flat cy1 yb yo yc _ W i2.any p2
          have s1 := sub_flat cx1 p1
          have s2 := sub_flat cy1 p2
          rw [cx2, ← hf] at s1
          rw [cy2, ← hg] at s2
          rw [← atN_ps (by rw [nx, hN]; exact hq)] at g1
          rw [← atN_ps (by rw [ny, hN]; exact hq)] at g2
          have c1 := chk_paT cx1 p1
          have c2 := chk_paT cy1 p2
          rw [← s1.2.1] at c1
          rw [← s2.2.1] at c2
          refine ⟨_, _, g1, g2, ?_, ?_, ?_, ?_⟩
          · rw [s1.2.1, atN_ps (by rw [nx, hN]; exact hq)]; exact ints_part cx1 p1 i1
          · rw [s2.2.1, atN_ps (by rw [ny, hN]; exact hq)]; exact ints_part cy1 p2 i2
          · have := rtP_of c1 c2
            rw [tmOf_flat s1.1, tmOf_flat s2.1] at this
            exact this
          · exact part_inst_lt θ (by rw [hpx]; exact List.mem_map.2 ⟨q, List.mem_range.2 hq, rfl⟩)
        have hskip : Hid (∀ q, q < N → ∀ W, Keeps (fun b => b = B) w3 W → Calls Try.prog 115 #[.slice (some ⟨xb, xo, none⟩) Lx xc, .int .i64 (atN x'.flat 0 q)] W (fun e w' => e = .returned (.int .i64 (atN x'.flat 0 (q + 1))) ∧ W = w') ∧
            Calls Try.prog 115 #[.slice (some ⟨yb, yo, none⟩) Ly yc, .int .i64 (atN y'.flat 0 q)] W (fun e w' => e = .returned (.int .i64 (atN y'.flat 0 (q + 1))) ∧ W = w')) := fun q hq W hK => by
          have hSk : Sok (fun b => b ≠ B) (fun b => b ≠ B) w3 W := ⟨hK.size, fun b hb hl => ⟨hb, hK.block b hl hb⟩⟩
          have i1 := hx4.out.mono hSk
          have i2 := hy4.out.mono hSk
          rw [← hLX.out] at i1 ⊢
          rw [← hLY.out] at i2 ⊢
          have p1 := (psN_lt cx1 l0x (by rw [nx, hN]; exact hq)).1
          have p2 := (psN_lt cy1 l0y (by rw [ny, hN]; exact hq)).1
          rw [← atN_ps (by rw [nx, hN]; exact hq)] at p1
          rw [← atN_ps (by rw [ny, hN]; exact hq)] at p2
          have g1 := Skip_calls x'.flat (small_of_signs HX.out.2.1) _ W i1.any x'.flat.length (atN x'.flat 0 q) (by omega)
          have g2 := Skip_calls y'.flat (small_of_signs HY.out.2.1) _ W i2.any y'.flat.length (atN y'.flat 0 q) (by omega)
          rw [(part_at cx1 p1).1, atN_next _ _ (by omega)] at g1
          rw [(part_at cy1 p2).1, atN_next _ _ (by omega)] at g2
          exact ⟨g1, g2⟩
        have hrec : Hid (∀ q, q < N → ∀ β', MetP β ((List.range q).map fun q => (f q, g q)) true β' → ((f q).inst θ).size < (x'.inst θ).size → RtP (f q, g q) → MeetC B β' (f q) (g q)) := fun q hq β' hP hsz hR => by
          unfold MetP at hP
          rw [if_pos rfl] at hP
          obtain ⟨hP1, ⟨θ', hP2⟩, -⟩ := hP
          rcases hP1 with rfl | hP1
          · exact H2.out (((f q).inst θ).size + 1) (by have := HM.out; rw [HX.out.2.2.2.1] at hsz; omega) _ θ _ _ HS.out hR HN.out (by omega)
          · exact H1.out (fr β) HN.out (((f q).inst θ').size + 1) _ θ' _ _ hP2 hR hP1 (by omega)
        have hsize := Lib.hid (Size_calls sx (by have := hsx.out; omega) (by have := hsx.out; omega))
        rw [hN] at hsize
        have h0P := Lib.hid (metP_nil HS.out)
        have a0x : ((atN x'.flat 0 0 : Nat) : Int) = 1 := rfl
        have a0y : ((atN y'.flat 0 0 : Nat) : Int) = 1 := rfl
        have hBW := Lib.hid hB4.out.lt
        clear hf hg hpx hpy l0x l0y nx ny hN cx1 cx2 cy1 cy2
        go_wp2_with fail
        refine (hsize.out _).mono ?_
        rintro e w' ⟨rfl, rfl⟩
        go_wp2_with fail
        go_loopw [9, 10, 74] (fun s9 s10 s74 wr => ∃ q : Nat, q ≤ N ∧ s74 = .int .i64 q ∧ s9 = .int .i64 (atN x'.flat 0 q) ∧ s10 = .int .i64 (atN y'.flat 0 q) ∧ Hid (∃ β', MetP β ((List.range q).map fun q => (f q, g q)) true β' ∧ BnIs B wr β' ∧ Keeps (fun b => b = B) w3 wr)) (fun _ _ s74 _ => N - (intOf s74).toNat)
        case atStart => exact ⟨0, Nat.zero_le _, rfl, by rw [a0x], by rw [a0y], β, h0P.out, hB4.out, .of_below (.refl _ _)⟩
        case round =>
          rename World => wr
          obtain ⟨q, hq, rfl, rfl, rfl, hP⟩ := hrel
          obtain ⟨β', hP1, hP2, hP3⟩ := hP.out
          have hPP := Lib.hid hP1
          have hPB := Lib.hid hP2
          have hPK := Lib.hid hP3
          clear hP hP1 hP2 hP3
          by_cases hlq : q < N
          · have hqq : (q : Int) < N := by omega
            have hq2 : (q : Int) ≤ 2 := by omega
            obtain ⟨v1, v2, g1, g2, i1, i2, hR, hsz⟩ := hpart.out q hlq wr hPK.out
            have G1 := Lib.hid g1
            have G2 := Lib.hid g2
            have hC := Lib.hid (hrec.out q hlq β' hPP.out hsz hR v1 v2 wr hPB.out i1 i2)
            clear g1 g2 i1 i2 hR hsz
            go_wp2_with fail
            refine G1.out.mono ?_
            rintro e w' ⟨rfl, rfl⟩
            go_wp2_with fail
            refine G2.out.mono ?_
            rintro e w' ⟨rfl, rfl⟩
            go_wp2_with fail
            refine hC.out.mono ?_
            rintro e w5 ⟨is, β'', rfl, hM, hB5, hK5⟩
            have HM5 := Lib.hid hM
            have HB5 := Lib.hid hB5
            have hK6 := Lib.hid (hPK.out.trans hK5)
            clear hM hB5 hK5
            cases is
            · have hend := Lib.hid (hno.out q β'' hlq (metP_snoc hPP.out HM5.out))
              go_wp2_with fail
              go_ret
              exact ⟨false, β'', rfl, hend.out, (fun h => by cases h), (Keeps.of_below hW4.out).trans hK6.out⟩
            · have hnx := Lib.hid (metP_snoc hPP.out HM5.out)
              rw [hsnoc.out] at hnx
              obtain ⟨g1, g2⟩ := hskip.out q hlq w5 hK6.out
              have G3 := Lib.hid g1
              have G4 := Lib.hid g2
              clear g1 g2
              go_wp2_with fail
              refine G3.out.mono ?_
              rintro e w' ⟨rfl, rfl⟩
              go_wp2_with fail
              refine G4.out.mono ?_
              rintro e w' ⟨rfl, rfl⟩
              go_wp2_with fail
              go_roundw
              case rel => exact ⟨q + 1, by omega, by go_num, rfl, rfl, β'', hnx.out, HB5.out trivial, hK6.out⟩
              case measure => simp [intOf]; omega
          · obtain rfl : q = N := by omega
            have hend := Lib.hid (hfin.out true β' hPP.out)
            go_wp2_with fail
            go_ret
            exact ⟨true, β', rfl, hend.out, fun _ => hPB.out, (Keeps.of_below hW4.out).trans hPK.out⟩
      · have hne2 : (sx != sy) = true := by simpa using hne
        have hcl := Lib.hid (met_clash (β := β) (β' := β) (x := x') (y := y') (by rw [hQX.out]; omega) (by rw [hQY.out]; omega) (by rw [hQX.out, hQY.out]; exact hne))
        go_wp2_with fail
        go_ret
        exact ⟨false, β, rfl, hmet.out _ _ hcl.out, (fun h => by cases h), .of_below hW4.out⟩

theorem meet_calls {B : Nat} : ∀ n m β θ x y, St β θ → RtP (x, y) → fr β < n → (x.inst θ).size < m → MeetC B β x y := by
  intro n
  induction n using Nat.strongRecOn with
  | ind n ihn =>
    intro m
    induction m using Nat.strongRecOn with
    | ind m ihm =>
      intro β θ x y hS hR hn hm
      exact meet_step ihn ihm hS hR hn hm
theorem meet_calls' {B : Nat} {β : Bn} {θ : Int → Tm} {x y : Tm} (hS : St β θ) (hR : RtP (x, y)) : MeetC B β x y :=
  meet_calls _ _ β θ x y hS hR (Nat.lt_succ_self _) (Nat.lt_succ_self _)

end Go.Proofs.Ytepddehodmljeaa

namespace Go.Proofs.Ytepddehodmljeaa
open Go.RowKit Go.Maps

/-- What is thrown. -/
def thrown : List PanicEntry := [{ v := .iface 212 (.agg #[]), recovered := false }]
/-- What whole does: the term, if it is not too large. -/
def WhE (θ : Int → Tm) (t : Tm) (w : World) (e : Ending) (w' : World) : Prop :=
  Below w.heap.size w w' ∧ ((t.inst θ).flat.length ≤ 30 ∧ (∃ v, e = .returned v ∧ IsInts (Fr w.heap.size) w' v (t.inst θ).flat) ∨ 30 < (t.inst θ).flat.length ∧ e = .panicked thrown)

theorem app_app2 (S : List (List Int)) (a b : List Int) : app S (a ++ b) = app S a ++ app S b := List.flatMap_append
theorem app_one' (S : List (List Int)) (n : Int) : app S [n] = sb S n := by simp [app]
theorem app_take {S : List (List Int)} {t : List Int} {k : Nat} (hk : k < t.length) : app S (t.take k) ++ sb S (nth t k) = app S (t.take (k + 1)) := by
  rw [List.take_succ_eq_append_getElem hk, nth_eq hk, app_app2, app_one']
theorem app_take_le (S : List (List Int)) (t : List Int) (k : Nat) : (app S (t.take k)).length ≤ (app S t).length := by
  have := app_app2 S (t.take k) (t.drop k)
  rw [List.take_append_drop] at this
  rw [this, List.length_append]; omega

set_option maxRecDepth 100000 in
set_option maxHeartbeats 4000000 in
theorem whole_calls {B : Nat} {β : Bn} {θ : Int → Tm} (hS : St β θ) {r : Int → Nat} (hr : Rnk r β) : ∀ (n : Nat) (t : Tm) (u : Value) (w : World), t.ok → (∀ s ∈ t.flat, -8 ≤ s ∧ s < 6) → t.size ≤ 30 → (∀ s ∈ t.flat, s < 0 → r s < n) →
    BnIs B w β → IsInts (fun b => b ≠ B) w u t.flat → Calls Try.prog 189 #[.pointer (some ⟨B, 0, none⟩), u] w (WhE θ t w)
  | n, t, u, w, ht, hs, hl, hn, hB, hu => by
    obtain ⟨i3, hi, hz, hsz, hby⟩ := info_parts Try.inf3
    obtain ⟨ub, uo, uc, rfl⟩ := hu.cells (flat_ne t)
    have HT := Lib.hid (And.intro ht (And.intro hs hn))
    have HB := Lib.hid hB
    have HU := Lib.hid hu
    have HS := Lib.hid hS
    have HR := Lib.hid hr
    have hLN : (t.flat.length : Int) ≤ 30 := by rw [size_flat]; omega
    have hLN2 : t.flat.length ≤ 30 := by omega
    have hrec : Hid (∀ m, m < n → ∀ (y : Tm) (u : Value) (w : World), y.ok → (∀ s ∈ y.flat, -8 ≤ s ∧ s < 6) → y.size ≤ 30 → (∀ s ∈ y.flat, s < 0 → r s < m) → BnIs B w β → IsInts (fun b => b ≠ B) w u y.flat →
        Calls Try.prog 189 #[.pointer (some ⟨B, 0, none⟩), u] w (WhE θ y w)) := fun m hm y u w => whole_calls hS hr m y u w
    have happ : Hid (app (meetS θ) t.flat = (t.inst θ).flat) := meetS_app ht fun s h => (hs s h).1
    obtain ⟨S, hSm⟩ : ∃ S, S = meetS θ := ⟨_, rfl⟩
    have hsb : Hid (∀ s, -8 ≤ s → s < 0 → sb S s = (θ s).flat) := fun s h8 h0 => by rw [hSm, sb, if_pos h0, meetS_nth h8 h0]
    rw [← hSm] at happ
    clear hSm
    have hfin : Hid (∀ e w', Below w.heap.size w w' → ((app S t.flat).length ≤ 30 ∧ (∃ v, e = .returned v ∧ IsInts (Fr w.heap.size) w' v (app S t.flat)) ∨ 30 < (app S t.flat).length ∧ e = .panicked thrown) → WhE θ t w e w') := fun e w' hb h => by
      rw [happ.out] at h; exact ⟨hb, h⟩
    clear ht hs hl hn hB hu hS hr
    go_enter Try.func189, Try.ntmps189
    go_wp2_with fail
    go_loopw [5, 11] (fun s5 s11 wr => ∃ k : Nat, k ≤ t.flat.length ∧ s11 = .int .i64 k ∧ Hid (wr.ownsRow w.heap.size 3 1 s5 (app S (t.flat.take k)).length ((app S (t.flat.take k)).map (Value.int .i64)) ∧ (app S (t.flat.take k)).length ≤ 30 ∧ Below w.heap.size w wr)) (fun _ s11 _ => t.flat.length - (intOf s11).toNat)
    case atStart => exact ⟨0, Nat.zero_le _, rfl, World.ownsRow_nil _ _ _ _, by simp [app], .refl _ _⟩
    case round =>
      rename World => wr
      obtain ⟨k, hk, rfl, hR⟩ := hrel
      obtain ⟨so, sc, hsv⟩ := (ints_of_own hR.out.1 (by have := hR.out.2.1; omega)).isSlice
      subst hsv
      by_cases hlk : k < t.flat.length
      · have hkk : (k : Int) < t.flat.length := by omega
        have hk30 : (k : Int) ≤ 30 := by omega
        have hc := (HU.out.mono (.of_below hR.out.2.2)).cell hlk
        have hmk := nth_mem hlk
        have hs8 := HT.out.2.1 _ hmk
        have hnext := Lib.hid (app_take (S := S) hlk)
        have hBw : Hid (BnIs B (wr.alloc (.cells #[.int .i64 (nth t.flat k)] 3)) β) := (HB.out.keep hR.out.2.2).keep (below_alloc _ _)
        have hli : Hid (IsInts (fun b => b ≠ B) (wr.alloc (.cells #[.int .i64 (nth t.flat k)] 3)) (.slice (some ⟨wr.heap.size, 0, none⟩) 1 1) [nth t.flat k]) := (ints_lit wr wr.heap.size [nth t.flat k] 3 (Nat.le_refl _) (by simp)).mono (.weak fun b hb e => by have h1 : wr.heap.size ≤ b := hb; have := (HB.out.keep hR.out.2.2).lt; omega)
        have hO := Lib.hid (hR.out.1.alloc (.cells #[.int .i64 (nth t.flat k)] 3))
        have hB1 := Lib.hid (ext_trans hR.out.2.2 (below_alloc wr (.cells #[.int .i64 (nth t.flat k)] 3)))
        have hy0 : ∃ y : Tm, Wk β (.leaf (nth t.flat k)) y ∧
            ((nth t.flat k < 0 ∧ 0 ≤ y.sg ∧ (y.inst θ).flat = sb S (nth t.flat k) ∧ (∀ u ∈ y.flat, u < 0 → r u < r (nth t.flat k)) ∧ y.ok ∧ (∀ z ∈ y.flat, -8 ≤ z ∧ z < 6) ∧ y.size ≤ 30) ∨ ((0 ≤ nth t.flat k ∨ (nth t.flat k < 0 ∧ y.sg < 0)) ∧ sb S (nth t.flat k) = [y.sg])) := by
          by_cases h0 : nth t.flat k < 0
          · obtain ⟨y, g1, g2, g3, g4, g5, g6, g7⟩ := wk_var HS.out HR.out hs8.1 h0
            refine ⟨y, g1, ?_⟩
            have e := hsb.out _ hs8.1 h0
            by_cases hy : y.sg < 0
            · exact .inr ⟨.inr ⟨h0, hy⟩, by rw [e, (g6 hy).2]; rfl⟩
            · exact .inl ⟨h0, by omega, by rw [e, g5], g7 (by omega), g2, g3, g4⟩
          · refine ⟨.leaf (nth t.flat k), .stay fun h => absurd h h0, .inr ⟨.inl (by omega), ?_⟩⟩
            rw [sb, if_neg h0]; rfl
        obtain ⟨y, hy, hyc⟩ := hy0
        have HYC := Lib.hid hyc
        have hwk := Lib.hid (walk_calls HS.out hy hs8.1 hBw.out hli.out)
        have hmk' := Lib.hid hmk
        clear hyc hy hmk
        go_wp2_with fail
        refine hwk.out.mono ?_
        rintro e w2 ⟨u2, n2, rfl, hu2, rfl⟩
        have hB3 := Lib.hid (ext_trans hB1.out (below_drewN _ _ n2))
        have hO3 := Lib.hid (ownsRow_keep hO.out fun j hj => (below_drewN _ (wr.alloc (.cells #[.int .i64 (nth t.flat k)] 3)) n2).block j (World.ownsRow.lt hO.out j hj).2)
        have hBn := Lib.hid (HB.out.keep hB3.out)
        generalize (wr.alloc (.cells #[.int .i64 (nth t.flat k)] 3)).drewN n2 = w2 at *
        obtain ⟨yb, yo, yc, rfl⟩ := hu2.cells (flat_ne y)
        have hc2 := hu2.cell (j := 0) (List.length_pos_iff.2 (flat_ne y))
        rw [flat_nth0, Nat.add_zero] at hc2
        have hmp : 0 < y.flat.length := List.length_pos_iff.2 (flat_ne y)
        have HU2 := Lib.hid hu2
        have hlen := Lib.hid hR.out.2.1
        have htot := Lib.hid (app_take_le S t.flat (k + 1))
        clear hu2 hwk hBw hli hc hO hB1 hR
        rcases HYC.out with ⟨h0, hyp, hyi, hyr, hyo, hys, hyl⟩ | ⟨hor, hsy⟩
        · have hcall := Lib.hid (hrec.out (r (nth t.flat k)) (HT.out.2.2 _ hmk'.out h0) y _ w2 hyo hys hyl hyr hBn.out HU2.out)
          have hI := Lib.hid hyi
          clear hyi hyr hyo hys hyl HYC
          generalize y.flat.length = M at *
          generalize y.sg = z at *
          go_wp2_with fail
          refine hcall.out.mono ?_
          rintro e w3 ⟨hb, ⟨hle, v, rfl, hv⟩ | ⟨hgt, rfl⟩⟩
          · have hnl : Hid ((app S (t.flat.take (k + 1))).length ≤ 100) := by have := congrArg List.length hnext.out; rw [List.length_append, ← hI.out] at this; have := hlen.out; show _ ≤ _; omega
            rw [hI.out] at hv hle
            have hV := Lib.hid hv.any
            obtain ⟨va, vc, rfl⟩ := hv.isSlice
            have hO5 := Lib.hid (ownsRow_keep hO3.out fun j hj => hb.block j (World.ownsRow.lt hO3.out j hj).2)
            have hBB := Lib.hid hb
            clear hv hb
            by_cases hgt : 30 < (app S (t.flat.take (k + 1))).length
            · have hgi : (30 : Int) < ((app S (t.flat.take (k + 1))).length : Nat) := by omega
              go_wp2_with (at_builtin; refine app_ints _ _ 24 rfl rfl w.heap.size i3 Try.underlying24 hi hz hsz hby hO5.out hV.out ?dp1 ?dp2 ?dp3; rotate_left 2; intro v' w4 hown4 hb4 hg4 _; rw [hnext.out] at hown4; obtain ⟨so', sc', hsv'⟩ := (ints_of_own hown4 (by have := hnl.out; omega)).isSlice; subst hsv'; have hB5 := Lib.hid ((ext_trans hB3.out hBB.out).trans hb4); have H4 := Lib.hid hown4; clear hown4 hb4)
              case dp1 => have := hlen.out; omega
              case dp2 => have := hB3.out.size; have := hBB.out.size; omega
              exact ⟨rfl, hfin.out _ _ hB5.out (.inr ⟨by have := htot.out; omega, rfl⟩)⟩
            · have hgi : ¬ (30 : Int) < ((app S (t.flat.take (k + 1))).length : Nat) := by omega
              have hgd : decide ((((app S (t.flat.take (k + 1))).length : Nat) : Int) > 30) = false := decide_eq_false (by omega)
              go_wp2_with (at_builtin; refine app_ints _ _ 24 rfl rfl w.heap.size i3 Try.underlying24 hi hz hsz hby hO5.out hV.out ?dn1 ?dn2 ?dn3; rotate_left 2; intro v' w4 hown4 hb4 hg4 _; rw [hnext.out] at hown4; obtain ⟨so', sc', hsv'⟩ := (ints_of_own hown4 (by have := hnl.out; omega)).isSlice; subst hsv'; have hB5 := Lib.hid ((ext_trans hB3.out hBB.out).trans hb4); have H4 := Lib.hid hown4; clear hown4 hb4)
              case dn1 => have := hlen.out; omega
              case dn2 => have := hB3.out.size; have := hBB.out.size; omega
              go_roundw
              case rel => exact ⟨k + 1, by omega, by go_num, H4.out, by omega, hB5.out⟩
              case measure => simp [intOf]; omega
          · refine ⟨rfl, hfin.out _ _ (ext_trans hB3.out hb) (.inr ⟨?_, rfl⟩)⟩
            have := congrArg List.length hnext.out
            rw [List.length_append, ← hI.out] at this
            have := htot.out
            omega
        · have hnl : Hid ((app S (t.flat.take (k + 1))).length ≤ 100) := by have e := congrArg List.length hnext.out; rw [List.length_append, hsy, List.length_singleton] at e; have := hlen.out; show _ ≤ _; omega
          rw [hsy] at hnext
          have hX := Lib.hid (ints_one w2 y.sg 3).any
          have hO4 := Lib.hid (hO3.out.alloc (.cells #[.int .i64 y.sg] 3))
          clear HYC hsy HU2
          generalize y.flat.length = M at *
          generalize y.sg = z at *
          rcases hor with h0 | ⟨h0, hz0⟩
          · by_cases hgt : 30 < (app S (t.flat.take (k + 1))).length
            · have hgi : (30 : Int) < ((app S (t.flat.take (k + 1))).length : Nat) := by omega
              go_wp2_with (at_builtin; refine app_ints _ _ 24 rfl rfl w.heap.size i3 Try.underlying24 hi hz hsz hby hO4.out hX.out ?cp1 ?cp2 ?cp3; rotate_left 2; intro v' w4 hown4 hb4 hg4 _; rw [hnext.out] at hown4; obtain ⟨so', sc', hsv'⟩ := (ints_of_own hown4 (by have := hnl.out; omega)).isSlice; subst hsv'; have hB5 := Lib.hid ((ext_trans hB3.out (below_alloc w2 (.cells #[.int .i64 z] 3))).trans hb4); have H4 := Lib.hid hown4; clear hown4 hb4)
              case cp1 => have := hlen.out; simp; omega
              case cp2 => have := hB3.out.size; simp; omega
              exact ⟨rfl, hfin.out _ _ hB5.out (.inr ⟨by have := htot.out; omega, rfl⟩)⟩
            · have hgi : ¬ (30 : Int) < ((app S (t.flat.take (k + 1))).length : Nat) := by omega
              have hgd : decide ((((app S (t.flat.take (k + 1))).length : Nat) : Int) > 30) = false := decide_eq_false (by omega)
              go_wp2_with (at_builtin; refine app_ints _ _ 24 rfl rfl w.heap.size i3 Try.underlying24 hi hz hsz hby hO4.out hX.out ?cn1 ?cn2 ?cn3; rotate_left 2; intro v' w4 hown4 hb4 hg4 _; rw [hnext.out] at hown4; obtain ⟨so', sc', hsv'⟩ := (ints_of_own hown4 (by have := hnl.out; omega)).isSlice; subst hsv'; have hB5 := Lib.hid ((ext_trans hB3.out (below_alloc w2 (.cells #[.int .i64 z] 3))).trans hb4); have H4 := Lib.hid hown4; clear hown4 hb4)
              case cn1 => have := hlen.out; simp; omega
              case cn2 => have := hB3.out.size; simp; omega
              go_roundw
              case rel => exact ⟨k + 1, by omega, by go_num, H4.out, by omega, hB5.out⟩
              case measure => simp [intOf]; omega
          · by_cases hgt : 30 < (app S (t.flat.take (k + 1))).length
            · have hgi : (30 : Int) < ((app S (t.flat.take (k + 1))).length : Nat) := by omega
              go_wp2_with (at_builtin; refine app_ints _ _ 24 rfl rfl w.heap.size i3 Try.underlying24 hi hz hsz hby hO4.out hX.out ?ep1 ?ep2 ?ep3; rotate_left 2; intro v' w4 hown4 hb4 hg4 _; rw [hnext.out] at hown4; obtain ⟨so', sc', hsv'⟩ := (ints_of_own hown4 (by have := hnl.out; omega)).isSlice; subst hsv'; have hB5 := Lib.hid ((ext_trans hB3.out (below_alloc w2 (.cells #[.int .i64 z] 3))).trans hb4); have H4 := Lib.hid hown4; clear hown4 hb4)
              case ep1 => have := hlen.out; simp; omega
              case ep2 => have := hB3.out.size; simp; omega
              exact ⟨rfl, hfin.out _ _ hB5.out (.inr ⟨by have := htot.out; omega, rfl⟩)⟩
            · have hgi : ¬ (30 : Int) < ((app S (t.flat.take (k + 1))).length : Nat) := by omega
              have hgd : decide ((((app S (t.flat.take (k + 1))).length : Nat) : Int) > 30) = false := decide_eq_false (by omega)
              go_wp2_with (at_builtin; refine app_ints _ _ 24 rfl rfl w.heap.size i3 Try.underlying24 hi hz hsz hby hO4.out hX.out ?en1 ?en2 ?en3; rotate_left 2; intro v' w4 hown4 hb4 hg4 _; rw [hnext.out] at hown4; obtain ⟨so', sc', hsv'⟩ := (ints_of_own hown4 (by have := hnl.out; omega)).isSlice; subst hsv'; have hB5 := Lib.hid ((ext_trans hB3.out (below_alloc w2 (.cells #[.int .i64 z] 3))).trans hb4); have H4 := Lib.hid hown4; clear hown4 hb4)
              case en1 => have := hlen.out; simp; omega
              case en2 => have := hB3.out.size; simp; omega
              go_roundw
              case rel => exact ⟨k + 1, by omega, by go_num, H4.out, by omega, hB5.out⟩
              case measure => simp [intOf]; omega
      · obtain rfl : k = t.flat.length := by omega
        go_wp2_with fail
        go_ret
        refine hfin.out _ _ hR.out.2.2 (.inl ?_)
        have h1 := hR.out.1
        have h2 := hR.out.2.1
        rw [List.take_length] at h1 h2
        refine ⟨h2, _, rfl, ?_⟩
        have := ints_of_own h1 (by omega)
        rw [List.take_length]
        exact this
termination_by n => n

end Go.Proofs.Ytepddehodmljeaa

namespace Go.Proofs.Ytepddehodmljeaa
open Go.RowKit Go.Maps

theorem assert_large (w : World) : (Instr.typeAssert (.iface 212 (.agg #[])) 20 212 true).run Try.prog w = .ok (.tuple #[.agg #[], .bool true]) w := by kernel_rfl
theorem assert_nil (w : World) : (Instr.typeAssert .nilIface 20 212 true).run Try.prog w = .ok (.tuple #[.agg #[], .bool false]) w := by kernel_rfl

theorem below_cell {w w' : World} (hb : Below w.heap.size w w') {p : Addr} {v : Value} (h : w.cell? p = some v) : w'.cell? p = some v := (hb.cell (World.block_lt_of_cell? _ _ h)).trans h
theorem below_frozen {w w' : World} (hb : Below w.heap.size w w') {p : Addr} (hl : p.block < w.heap.size) (h : w.frozen? p = false) : w'.frozen? p = false := (World.frozen?_of_block (w := w) (hb.block _ hl)).trans h

/-- What the closure leaves behind a panic. -/
def caught (w : World) (p q s : Nat) : World := (((w.alloc (.cells #[] 212)).setCell ⟨p, 0, none⟩ (.slice none 0 0)).setCell ⟨q, 0, none⟩ (.bool false)).setCell ⟨s, 0, none⟩ (.int .i64 2)

set_option maxRecDepth 100000 in
set_option maxHeartbeats 2000000 in
theorem catch_thrown (p q s : Nat) (w : World) (xp xq xs : Value) (hpq : p ≠ q) (hps : p ≠ s) (hqs : q ≠ s) (hp : w.cell? ⟨p, 0, none⟩ = some xp) (hq : w.cell? ⟨q, 0, none⟩ = some xq) (hs : w.cell? ⟨s, 0, none⟩ = some xs)
    (fp : w.frozen? ⟨p, 0, none⟩ = false) (fq : w.frozen? ⟨q, 0, none⟩ = false) (fs : w.frozen? ⟨s, 0, none⟩ = false) :
    CallsD Try.prog 188 #[.pointer (some ⟨p, 0, none⟩), .pointer (some ⟨q, 0, none⟩), .pointer (some ⟨s, 0, none⟩)] (.panicking thrown) w fun e u' w' =>
      e = .returned (.tuple #[]) ∧ u' = .panicking [{ v := .iface 212 (.agg #[]), recovered := true }] ∧ w' = caught w p q s := by
  have hb := below_alloc w (.cells #[] 212)
  have c1 := below_cell hb hp
  have f1 := below_frozen hb (World.block_lt_of_cell? _ _ hp) fp
  have cq := below_cell hb hq
  have cs' := below_cell hb hs
  have fq' := below_frozen hb (World.block_lt_of_cell? _ _ hq) fq
  have fs' := below_frozen hb (World.block_lt_of_cell? _ _ hs) fs
  obtain ⟨w1, hw1⟩ : ∃ w1, w1 = w.alloc (.cells #[] 212) := ⟨_, rfl⟩
  rw [← hw1] at c1 f1 cq cs' fq' fs'
  have n1 : (⟨p, 0, none⟩ : Addr) ≠ ⟨q, 0, none⟩ := fun e => hpq (by cases e; rfl)
  have n2 : (⟨p, 0, none⟩ : Addr) ≠ ⟨s, 0, none⟩ := fun e => hps (by cases e; rfl)
  have n3 : (⟨q, 0, none⟩ : Addr) ≠ ⟨s, 0, none⟩ := fun e => hqs (by cases e; rfl)
  have c2 : (w1.setCell ⟨p, 0, none⟩ (.slice none 0 0)).cell? ⟨q, 0, none⟩ = some xq := (World.cell?_setCell_other _ _ _ _ n1).trans cq
  have f2 : (w1.setCell ⟨p, 0, none⟩ (.slice none 0 0)).frozen? ⟨q, 0, none⟩ = false := by simp [go_sem, fq']
  have c3 : ((w1.setCell ⟨p, 0, none⟩ (.slice none 0 0)).setCell ⟨q, 0, none⟩ (.bool false)).cell? ⟨s, 0, none⟩ = some xs := (World.cell?_setCell_other _ _ _ _ n3).trans ((World.cell?_setCell_other _ _ _ _ n2).trans cs')
  have f3 : ((w1.setCell ⟨p, 0, none⟩ (.slice none 0 0)).setCell ⟨q, 0, none⟩ (.bool false)).frozen? ⟨s, 0, none⟩ = false := by simp [go_sem, fs']
  refine callsD_of_wpS Try.func188 rfl fun c₀ cs hu => ?_
  apply wpS_seq
  apply wpS_region
  simp [wpOpsS, go_sem, recoverD, hu, thrown, Try.ntmps188, Exit.thenS, Array.replicate_succ]
  have h1 := assert_large
  rw [hw1] at c1 f1 c2 f2 c3 f3
  refine wpS_of_wp ?_
  go_wp2_with fail
  simp [bodyPostS, results, Try.f188, caught]

set_option maxRecDepth 100000 in
set_option maxHeartbeats 2000000 in
theorem catch_idle (p q s : Addr) (w : World) :
    CallsD Try.prog 188 #[.pointer (some p), .pointer (some q), .pointer (some s)] .returning w fun e u' w' => e = .returned (.tuple #[]) ∧ u' = .returning ∧ w' = w.alloc (.cells #[] 212) := by
  refine callsD_of_wpS Try.func188 rfl fun c₀ cs hu => ?_
  apply wpS_seq
  apply wpS_region
  simp [wpOpsS, go_sem, recoverD, hu, Try.ntmps188, Exit.thenS, Array.replicate_succ]
  have h2 := assert_nil
  refine wpS_of_wp ?_
  go_wp2_with fail
  cases c₀
  simp_all [bodyPostS, results, Try.f188]

end Go.Proofs.Ytepddehodmljeaa

namespace Go.Proofs.Ytepddehodmljeaa
open Go.RowKit Go.Maps

theorem own_set {α : Type} {R : Rep α} (hR : R.Ok) {w : World} {base : Nat} {e : TypeId} {S : Blk} {g k n c : Nat} {xs : List α} (hown : OwnRow base e 1 R S w (.slice (some ⟨g, 0, none⟩) n c) xs) (hk : k < xs.length) {y : α} {u : Value}
    (hy : R (Both' S fun b => b ≠ g) w [u] y) : OwnRow base e 1 R S (w.setCell ⟨g, k, none⟩ u) (.slice (some ⟨g, 0, none⟩) n c) (xs.set k y) ∧ w.grownBy (w.setCell ⟨g, k, none⟩ u) (some g) := by
  obtain ⟨cs, he, ho'⟩ := hown
  have hn : n = xs.length := by
    rcases ho'.2 with ⟨hx, _⟩ | ⟨_, _, _, hx, _⟩
    · simp at hx
    · simp at hx; exact hx.2.1
  subst hn
  have hst := ho'.stored k u
  have hsz : (w.setCell ⟨g, k, none⟩ u).heap.size = w.heap.size := by simp
  have e1 : (Both' S (Off (.slice (some ⟨g, 0, none⟩) xs.length c))) = Both' S fun b => b ≠ g := by
    funext b; simp only [Both', Off, Value.ownBlock]; apply propext; constructor
    · rintro ⟨a1, a2⟩; exact ⟨a1, fun e => a2 (by rw [e])⟩
    · rintro ⟨a1, a2⟩; exact ⟨a1, fun e => a2 (by cases e; rfl)⟩
  refine ⟨⟨cs.set k u, ?_, by simpa using hst.1⟩, hst.2⟩
  rw [e1] at he ⊢
  exact (he.set rfl k u y hk hy).mono hR ⟨by rw [hsz]; exact Nat.le_refl _, fun b hb _ => ⟨hb, Below.heap_setCell _ _ _ _ hb.2⟩⟩

/-- Right pairs, as trees. -/
def prT (l : Rus) : List (Tm × Tm) := l.map fun p => (tmOf p.1, tmOf p.2)
theorem prT_take {l : Rus} {k : Nat} (hk : k < l.length) : prT (l.take k) ++ [(tmOf (nthR l k).1, tmOf (nthR l k).2)] = prT (l.take (k + 1)) := by
  rw [nthR_eq hk, List.take_succ_eq_append_getElem hk, prT, prT, List.map_append]; rfl

theorem prT_app (a b : Rus) : prT (a ++ b) = prT a ++ prT b := List.map_append ..

def SolE (l : List (Tm × Tm)) (w : World) (e : Ending) (w' : World) : Prop :=
  ∃ s is er u, e = .returned (.tuple #[u, .bool is, .int .i64 er]) ∧ SolveR l s is er ∧ IsTerms (Fr w.heap.size) w' u s ∧ Below w.heap.size w w'

def nils8 : List Value := List.replicate 8 (.slice none 0 0)

/-- The memory of Solve, behind its beginning: the results' boxes, and the binder. -/
structure SoSt (w W : World) (a : Value) (b : Bool) (c : Int) : Prop where
  bel : Below w.heap.size w W
  size : w.heap.size + 4 ≤ W.heap.size
  c2 : W.cell? ⟨w.heap.size, 0, none⟩ = some a
  c3 : W.cell? ⟨w.heap.size + 1, 0, none⟩ = some (.bool b)
  c4 : W.cell? ⟨w.heap.size + 1 + 1, 0, none⟩ = some (.int .i64 c)
  f2 : W.frozen? ⟨w.heap.size, 0, none⟩ = false
  f3 : W.frozen? ⟨w.heap.size + 1, 0, none⟩ = false
  f4 : W.frozen? ⟨w.heap.size + 1 + 1, 0, none⟩ = false
theorem SoSt.keep {w W W' : World} {a : Value} {b : Bool} {c : Int} (h : SoSt w W a b c) (hk : Keeps (fun k => k = w.heap.size + 1 + 1 + 1) W W') : SoSt w W' a b c := by
  have hz := h.size
  exact ⟨⟨hk.os.trans h.bel.os, hk.tape.trans h.bel.tape, hk.output.trans h.bel.output, Nat.le_trans h.bel.size hk.size, fun k hkk => (hk.block k (by omega) (by omega)).trans (h.bel.block k hkk)⟩, Nat.le_trans hz hk.size,
    keeps_cell hk (by omega) (by omega) h.c2, keeps_cell hk (by omega) (by omega) h.c3, keeps_cell hk (by omega) (by omega) h.c4, keeps_frozen hk (by omega) (by omega) h.f2, keeps_frozen hk (by omega) (by omega) h.f3, keeps_frozen hk (by omega) (by omega) h.f4⟩

theorem SoSt.put {w W : World} {a0 a : Value} {b0 b : Bool} {c0 c : Int} (h : SoSt w W a0 b0 c0) :
    SoSt w (((W.setCell ⟨w.heap.size, 0, none⟩ a).setCell ⟨w.heap.size + 1, 0, none⟩ (.bool b)).setCell ⟨w.heap.size + 1 + 1, 0, none⟩ (.int .i64 c)) a b c := by
  have n1 : (⟨w.heap.size, 0, none⟩ : Addr) ≠ ⟨w.heap.size + 1, 0, none⟩ := fun e => by injection e with e; omega
  have n2 : (⟨w.heap.size, 0, none⟩ : Addr) ≠ ⟨w.heap.size + 1 + 1, 0, none⟩ := fun e => by injection e with e; omega
  have n3 : (⟨w.heap.size + 1, 0, none⟩ : Addr) ≠ ⟨w.heap.size + 1 + 1, 0, none⟩ := fun e => by injection e with e; omega
  have k2 : (W.setCell ⟨w.heap.size, 0, none⟩ a).cell? ⟨w.heap.size, 0, none⟩ = some a := World.cell?_setCell_same' _ _ _ (by rw [h.c2]; rfl)
  have k3 : (W.setCell ⟨w.heap.size, 0, none⟩ a).cell? ⟨w.heap.size + 1, 0, none⟩ = some (.bool b0) := (World.cell?_setCell_other _ _ _ _ n1).trans h.c3
  have k4 : (W.setCell ⟨w.heap.size, 0, none⟩ a).cell? ⟨w.heap.size + 1 + 1, 0, none⟩ = some (.int .i64 c0) := (World.cell?_setCell_other _ _ _ _ n2).trans h.c4
  have m2 := (World.cell?_setCell_other (W.setCell ⟨w.heap.size, 0, none⟩ a) _ _ (.bool b) (Ne.symm n1)).trans k2
  have m3 := World.cell?_setCell_same' (W.setCell ⟨w.heap.size, 0, none⟩ a) ⟨w.heap.size + 1, 0, none⟩ (.bool b) (by rw [k3]; rfl)
  have m4 := (World.cell?_setCell_other (W.setCell ⟨w.heap.size, 0, none⟩ a) _ _ (.bool b) n3).trans k4
  refine ⟨((h.bel.setCell (by simp) _).setCell (by simp) _).setCell (by simp; omega) _, by simpa using h.size, (World.cell?_setCell_other _ _ _ _ (Ne.symm n2)).trans m2, (World.cell?_setCell_other _ _ _ _ (Ne.symm n3)).trans m3, World.cell?_setCell_same' _ _ _ (by rw [m4]; rfl), ?_, ?_, ?_⟩
  · simp [go_sem, h.f2]
  · simp [go_sem, h.f3]
  · simp [go_sem, h.f4]
theorem SoSt.below {w W W' : World} {a : Value} {b : Bool} {c : Int} (h : SoSt w W a b c) (hb : Below W.heap.size W W') : SoSt w W' a b c := h.keep (.of_below hb)

theorem SoSt.keep3 {w W W' : World} {a : Value} {b : Bool} {c : Int} (h : SoSt w W a b c) (hk : Below (w.heap.size + 3) W W') : SoSt w W' a b c := by
  have hz := h.size
  have hc : ∀ k, k < w.heap.size + 3 → W'.heap[k]? = W.heap[k]? := hk.block
  have cell : ∀ k v, k < w.heap.size + 3 → W.cell? ⟨k, 0, none⟩ = v → W'.cell? ⟨k, 0, none⟩ = v := fun k v h1 h2 => (World.cell?_of_block (w := W) (a := ⟨k, 0, none⟩) (hc k h1)).trans h2
  have frz : ∀ k v, k < w.heap.size + 3 → W.frozen? ⟨k, 0, none⟩ = v → W'.frozen? ⟨k, 0, none⟩ = v := fun k v h1 h2 => (World.frozen?_of_block (w := W) (a := ⟨k, 0, none⟩) (hc k h1)).trans h2
  exact ⟨⟨hk.os.trans h.bel.os, hk.tape.trans h.bel.tape, hk.output.trans h.bel.output, Nat.le_trans h.bel.size hk.size, fun k hkk => (hc k (by omega)).trans (h.bel.block k hkk)⟩, Nat.le_trans hz hk.size,
    cell _ _ (by omega) h.c2, cell _ _ (by omega) h.c3, cell _ _ (by omega) h.c4, frz _ _ (by omega) h.f2, frz _ _ (by omega) h.f3, frz _ _ (by omega) h.f4⟩
theorem SoSt.put1 {w W : World} {a0 a : Value} {b0 : Bool} {c0 : Int} (h : SoSt w W a0 b0 c0) : SoSt w (W.setCell ⟨w.heap.size, 0, none⟩ a) a b0 c0 := by
  have n1 : (⟨w.heap.size, 0, none⟩ : Addr) ≠ ⟨w.heap.size + 1, 0, none⟩ := fun e => by injection e with e; omega
  have n2 : (⟨w.heap.size, 0, none⟩ : Addr) ≠ ⟨w.heap.size + 1 + 1, 0, none⟩ := fun e => by injection e with e; omega
  refine ⟨h.bel.setCell (by simp) _, by simpa using h.size, World.cell?_setCell_same' _ _ _ (by rw [h.c2]; rfl), (World.cell?_setCell_other _ _ _ _ n1).trans h.c3, (World.cell?_setCell_other _ _ _ _ n2).trans h.c4, ?_, ?_, ?_⟩
  · simp [go_sem, h.f2]
  · simp [go_sem, h.f3]
  · simp [go_sem, h.f4]
theorem ints_setSlice {S : Blk} {w : World} {v u : Value} {t : List Int} {a : Addr} {x : Option Addr} {n c : Nat} (h : IsInts S w v t) (ha : w.cell? a = some (.slice x n c)) : IsInts S (w.setCell a u) v t := by
  obtain ⟨hl, h | ⟨hne, b, o, c, rfl, hcap, hs, hlt, hc⟩⟩ := h
  · exact ⟨hl, .inl h⟩
  · refine ⟨hl, .inr ⟨hne, b, o, c, rfl, hcap, hs, by simpa using hlt, fun j hj => ?_⟩⟩
    have h1 := hc j hj
    exact (World.cell?_setCell_other _ _ _ _ (fun e => by rw [e, h1] at ha; cases ha)).trans h1
theorem BnIs.setSlice {B : Nat} {w : World} {β : Bn} {a : Addr} {x : Option Addr} {n c : Nat} (h : BnIs B w β) (hb : a.block ≠ B) (ha : w.cell? a = some (.slice x n c)) (u : Value) : BnIs B (w.setCell a u) β := by
  obtain ⟨vals, h1, h2, h3⟩ := h
  refine ⟨vals, ownsRow_setCell_other h1 (by simp [Value.ownBlock]; exact fun e => hb e.symm) u, h2, fun k hk => ?_⟩
  obtain ⟨v, g1, g2⟩ := h3 k hk
  refine ⟨v, g1, ?_⟩
  cases hβ : β (-1 - (k : Int)) with
  | none => rw [hβ] at g2; exact g2
  | some t => rw [hβ] at g2; exact ints_setSlice (t := t.flat) g2 ha

theorem leaf_inst {θ : Int → Tm} {v : Int} (h : v < 0) : (Tm.leaf v).inst θ = θ v := if_pos h

/-- What stands in the list behind k terms. -/
def rowK (θ : Int → Tm) (k : Nat) : List (List Int) := (List.range 8).map fun j : Nat => if j < k then (θ (-1 - (j : Int))).flat else [-1 - (j : Int)]
theorem rowK_len (θ : Int → Tm) (k : Nat) : (rowK θ k).length = 8 := by simp [rowK]
theorem rowK_zero (θ : Int → Tm) : rowK θ 0 = noneS := by simp [rowK, noneS, List.range_succ]
theorem rowK_all (θ : Int → Tm) : rowK θ 8 = meetS θ := by
  unfold rowK meetS
  refine List.map_congr_left fun j hj => ?_
  rw [if_pos (List.mem_range.1 hj)]
theorem rowK_get (θ : Int → Tm) {k : Nat} (hk : k < 8) : (rowK θ k)[k]'(by rw [rowK_len]; exact hk) = [-1 - (k : Int)] := by simp [rowK]
theorem rowK_set (θ : Int → Tm) {k : Nat} (hk : k < 8) : (rowK θ k).set k (θ (-1 - (k : Int))).flat = rowK θ (k + 1) := by
  refine List.ext_getElem? fun n => ?_
  rw [List.getElem?_set, rowK_len, if_pos hk]
  unfold rowK
  rw [List.getElem?_map, List.getElem?_map]
  by_cases hn : n < 8
  · rw [List.getElem?_range hn]
    by_cases e : k = n
    · subst e; simp
    · rw [if_neg e]
      simp only [Option.map_some]
      by_cases h : n < k
      · rw [if_pos h, if_pos (by omega)]
      · rw [if_neg h, if_neg (by omega)]
  · rw [List.getElem?_eq_none (by simp; omega)]
    rw [if_neg (by omega)]; rfl

theorem bn_new (W : World) : BnIs W.heap.size (W.alloc (.cells #[.slice none 0 0, .slice none 0 0, .slice none 0 0, .slice none 0 0, .slice none 0 0, .slice none 0 0, .slice none 0 0, .slice none 0 0] 211)) (fun _ => none) := by
  have h := lit_own W W.heap.size nils8 211 (Nat.le_refl _) (by simp [nils8])
  refine ⟨nils8, h, rfl, fun k hk => ⟨.slice none 0 0, ?_, rfl⟩⟩
  rw [nils8, List.getElem?_replicate, if_pos hk]

/-- Behind a throw, ahead of the deferred call. -/
def dfs (b : Nat) : List Deferred := [{ target := .fn (.func 188) #[.pointer (some ⟨b, 0, none⟩), .pointer (some ⟨b + 1, 0, none⟩), .pointer (some ⟨b + 1 + 1, 0, none⟩)], args := #[] }]
def PnQ (b : Nat) (W : World) : Exit → Act → World → Prop
  | .panic ch, a, w' => (a.tmps.getD 2 undef = .pointer (some ⟨b, 0, none⟩) ∧ a.tmps.getD 3 undef = .pointer (some ⟨b + 1, 0, none⟩) ∧ a.tmps.getD 4 undef = .pointer (some ⟨b + 1 + 1, 0, none⟩) ∧ a.defers = dfs b) ∧ ch = thrown ∧ Below W.heap.size W w'
  | _, _, _ => False
theorem pn_put {b : Nat} {W : World} {ch : List PanicEntry} {a : Act} {w' : World} {d : Nat} {v : Value} (hd : d ≠ 2 ∧ d ≠ 3 ∧ d ≠ 4) (h : PnQ b W (.panic ch) (a.put (some d) v) w') : PnQ b W (.panic ch) a w' := by
  obtain ⟨⟨h2, h3, h4, h5⟩, h6⟩ := h
  refine ⟨⟨?_, ?_, ?_, h5⟩, h6⟩
  · rw [← h2]; simp [Act.put, Array.getD_eq_getD_getElem?, Array.getElem?_setIfInBounds_ne hd.1]
  · rw [← h3]; simp [Act.put, Array.getD_eq_getD_getElem?, Array.getElem?_setIfInBounds_ne hd.2.1]
  · rw [← h4]; simp [Act.put, Array.getD_eq_getD_getElem?, Array.getElem?_setIfInBounds_ne hd.2.2]
theorem solE_big {l : List (Tm × Tm)} {θ : Int → Tm} (h1 : Mgu l θ) (h2 : SgS θ) (h3 : ¬ smallS θ) : SolveR l [] false 2 := .inr ⟨θ, h1, h2, .inr ⟨h3, rfl, rfl, rfl⟩⟩
theorem leaves_thrown {w W : World} {a0 : Value} {b0 : Bool} {c0 : Int} {l : List (Tm × Tm)} (h : SoSt w W a0 b0 c0) (hs : SolveR l [] false 2) : ∀ (a : Act) (w' : World) (ch : List PanicEntry), PnQ w.heap.size W (.panic ch) a w' → bodyPostD Try.prog Try.f151 (SolE l w) (.panic ch) a w' := by
  rintro a w' ch ⟨⟨h2, h3, h4, h5⟩, rfl, hb⟩
  have hS := h.below hb
  show Leaves Try.prog Try.f151 a.tmps (SolE l w) a.defers (.panicking thrown) w'
  rw [h5]
  obtain ⟨-, hz, g2, g3, g4, g5, g6, g7⟩ := hS
  refine ⟨by simp, .func 188, #[.pointer (some ⟨w.heap.size, 0, none⟩), .pointer (some ⟨w.heap.size + 1, 0, none⟩), .pointer (some ⟨w.heap.size + 1 + 1, 0, none⟩)], 188, #[.pointer (some ⟨w.heap.size, 0, none⟩), .pointer (some ⟨w.heap.size + 1, 0, none⟩), .pointer (some ⟨w.heap.size + 1 + 1, 0, none⟩)], rfl, by kernel_rfl, ?_⟩
  refine (catch_thrown w.heap.size (w.heap.size + 1) (w.heap.size + 1 + 1) w' _ _ _ (by omega) (by omega) (by omega) g2 g3 g4 g5 g6 g7).mono ?_
  rintro e u' w2 ⟨rfl, rfl, rfl⟩
  have hS2 := ((show SoSt w w' a0 b0 c0 from ⟨h.bel.trans (hb.mono h.bel.size), hz, g2, g3, g4, g5, g6, g7⟩).below (below_alloc w' (.cells #[] 212))).put (a := .slice none 0 0) (b := false) (c := 2)
  have q2 := hS2.c2
  have q3 := hS2.c3
  have q4 := hS2.c4
  refine ⟨.tuple #[.slice none 0 0, .bool false, .int .i64 2], ?_, [], false, 2, .slice none 0 0, rfl, hs, ⟨by simp, .inl ⟨rfl, none, 0, rfl, fun _ => rfl⟩⟩, hS2.bel⟩
  rw [Array.getD_eq_getD_getElem?] at h2 h3 h4
  simp [results, Try.f151, go_sem, h2, h3, h4, caught, q2, q3, q4]

theorem leaves_fine {w W : World} {n g c : Nat} {a0 : Value} {b0 : Bool} {c0 : Int} {l : List (Tm × Tm)} {θ : Int → Tm} (h : SoSt w W a0 b0 c0) (hrow : OwnRow n 24 1 TermR (Fr n) W (.slice (some ⟨g, 0, none⟩) 8 c) (meetS θ)) (hn : w.heap.size + 4 ≤ n)
    (h1 : Mgu l θ) (h2 : SgS θ) (h3 : smallS θ) (a : Act) (ha : a.defers = dfs w.heap.size) (t2 : a.tmps.getD 2 undef = .pointer (some ⟨w.heap.size, 0, none⟩)) (t3 : a.tmps.getD 3 undef = .pointer (some ⟨w.heap.size + 1, 0, none⟩)) (t4 : a.tmps.getD 4 undef = .pointer (some ⟨w.heap.size + 1 + 1, 0, none⟩)) :
    bodyPostD Try.prog Try.f151 (SolE l w) .ret a (((W.setCell ⟨w.heap.size, 0, none⟩ (.slice (some ⟨g, 0, none⟩) 8 c)).setCell ⟨w.heap.size + 1, 0, none⟩ (.bool true)).setCell ⟨w.heap.size + 1 + 1, 0, none⟩ (.int .i64 0)) := by
  have hS := h.put (a := .slice (some ⟨g, 0, none⟩) 8 c) (b := true) (c := 0)
  have hr2 : OwnRow n 24 1 TermR (Fr n) (((W.setCell ⟨w.heap.size, 0, none⟩ (.slice (some ⟨g, 0, none⟩) 8 c)).setCell ⟨w.heap.size + 1, 0, none⟩ (.bool true)).setCell ⟨w.heap.size + 1 + 1, 0, none⟩ (.int .i64 0)) (.slice (some ⟨g, 0, none⟩) 8 c) (meetS θ) := by
    have hst : ∀ b, n ≤ b → (((W.setCell ⟨w.heap.size, 0, none⟩ (.slice (some ⟨g, 0, none⟩) 8 c)).setCell ⟨w.heap.size + 1, 0, none⟩ (.bool true)).setCell ⟨w.heap.size + 1 + 1, 0, none⟩ (.int .i64 0)).heap[b]? = W.heap[b]? := fun b hb => by
      rw [Below.heap_setCell _ _ _ _ (by simp; omega), Below.heap_setCell _ _ _ _ (by simp; omega), Below.heap_setCell _ _ _ _ (by simp; omega)]
    exact hrow.mono TermR.ok ⟨by simp, fun b hb _ => ⟨hb, hst b hb⟩⟩ fun j hj => hst j (hrow.block j hj).1
  obtain ⟨W0, hW0⟩ : ∃ W0, W0 = (((W.setCell ⟨w.heap.size, 0, none⟩ (.slice (some ⟨g, 0, none⟩) 8 c)).setCell ⟨w.heap.size + 1, 0, none⟩ (.bool true)).setCell ⟨w.heap.size + 1 + 1, 0, none⟩ (.int .i64 0)) := ⟨_, rfl⟩
  rw [← hW0] at hS hr2 ⊢
  clear hW0
  show Leaves Try.prog Try.f151 a.tmps (SolE l w) a.defers .returning W0
  rw [ha]
  refine ⟨by simp, .func 188, #[.pointer (some ⟨w.heap.size, 0, none⟩), .pointer (some ⟨w.heap.size + 1, 0, none⟩), .pointer (some ⟨w.heap.size + 1 + 1, 0, none⟩)], 188, #[.pointer (some ⟨w.heap.size, 0, none⟩), .pointer (some ⟨w.heap.size + 1, 0, none⟩), .pointer (some ⟨w.heap.size + 1 + 1, 0, none⟩)], rfl, by kernel_rfl, ?_⟩
  refine (catch_idle _ _ _ W0).mono ?_
  rintro e u' w2 ⟨rfl, rfl, rfl⟩
  have hS2 := hS.below (below_alloc W0 (.cells #[] 212))
  have hr3 := OwnRow.terms (OwnRow.below TermR.ok hr2 (below_alloc W0 (.cells #[] 212))) (by simp [meetS])
  generalize W0.alloc (.cells #[] 212) = W1 at *
  have q2 := hS2.c2
  have q3 := hS2.c3
  have q4 := hS2.c4
  refine ⟨.tuple #[.slice (some ⟨g, 0, none⟩) 8 c, .bool true, .int .i64 0], ?_, meetS θ, true, 0, .slice (some ⟨g, 0, none⟩) 8 c, rfl, .inr ⟨θ, h1, h2, .inl ⟨h3, rfl, rfl, rfl⟩⟩, IsRow.mono TermR.ok hr3 (.weak fun b hb => ?_), hS2.bel⟩
  · rw [Array.getD_eq_getD_getElem?] at t2 t3 t4
    simp [results, Try.f151, go_sem, t2, t3, t4, q2, q3, q4]
  · have hb' : n ≤ b := hb
    show w.heap.size ≤ b
    omega

set_option maxRecDepth 100000 in
set_option maxHeartbeats 4000000 in
theorem Solve_calls (l : Rus) (v : Value) (w : World) (hv : IsRules Any w v l) (hr : ∀ p ∈ l, chk p.1 = 0 ∧ chk p.2 = 0) (hll : l.length ≤ 100) :
    Calls Try.prog 151 #[v] w (SolE (prT l) w) := by
  have hmf : ∀ (fn : Fn) (first cap : Array Value) (w : World), (Instr.makeFunc fn first cap).run Try.prog w = .ok (.func fn first cap) w := fun _ _ _ _ => rfl
  obtain ⟨W0, hW0⟩ : ∃ W0, W0 = ((((w.alloc (.cells #[.slice none 0 0] 22)).alloc (.cells #[.bool false] 4)).alloc (.cells #[.int .i64 0] 25)).alloc (.cells #[.slice none 0 0, .slice none 0 0, .slice none 0 0, .slice none 0 0, .slice none 0 0, .slice none 0 0, .slice none 0 0, .slice none 0 0] 211)) := ⟨_, rfl⟩
  have hB0 : Below w.heap.size w W0 := by rw [hW0]; exact ext_alloc (ext_alloc (ext_alloc (below_alloc _ _) _) _) _
  have hS0 : Hid (SoSt w W0 (.slice none 0 0) false 0) := by
    refine ⟨hB0, ?_, ?_, ?_, ?_, ?_, ?_, ?_⟩ <;> (rw [hW0]; simp [go_sem])
  have hN0 : Hid (BnIs (w.heap.size + 1 + 1 + 1) W0 (fun _ => none)) := by
    have := bn_new (((w.alloc (.cells #[.slice none 0 0] 22)).alloc (.cells #[.bool false] 4)).alloc (.cells #[.int .i64 0] 25))
    rw [← hW0] at this
    have hz : (((w.alloc (.cells #[.slice none 0 0] 22)).alloc (.cells #[.bool false] 4)).alloc (.cells #[.int .i64 0] 25)).heap.size = w.heap.size + 1 + 1 + 1 := by simp
    rw [hz] at this; exact this
  have hV0 : Hid (IsRules (fun b => b ≠ w.heap.size + 1 + 1 + 1) W0 v l) := hv.mono RuleR.ok ⟨hB0.size, fun b _ hb => ⟨by omega, hB0.block b hb⟩⟩
  obtain ⟨va, vc, rfl⟩ := hv.isSlice
  have hml := Lib.hid (metL_nil)
  have HR := Lib.hid hr
  have hll' : (l.length : Int) ≤ 100 := by omega
  clear hv hr hB0
  go_enter_defers Try.func151, Try.ntmps151
  go_wp2_with fail
  rw [← hW0]
  clear hW0
  go_loopw [13] (fun s13 wr => ∃ k : Nat, k ≤ l.length ∧ s13 = .int .i64 k ∧ Hid (∃ β, MetL (prT (l.take k)) true β ∧ BnIs (w.heap.size + 1 + 1 + 1) wr β ∧ Keeps (fun b => b = w.heap.size + 1 + 1 + 1) W0 wr)) (fun s13 _ => l.length - (intOf s13).toNat)
  case atStart => exact ⟨0, Nat.zero_le _, rfl, _, hml.out, hN0.out, .of_below (.refl _ _)⟩
  case round =>
    rename World => wr
    obtain ⟨k, hk, rfl, hP⟩ := hrel
    obtain ⟨β, hP1, hP2, hP3⟩ := hP.out
    have hSr := Lib.hid (hS0.out.keep hP3)
    have hML := Lib.hid hP1
    have hBN := Lib.hid hP2
    have hKP := Lib.hid hP3
    clear hP hP1 hP2 hP3
    by_cases hlk : k < l.length
    · have hkk : (k : Int) < l.length := by omega
      have hVr : IsRules (fun b => b ≠ w.heap.size + 1 + 1 + 1) wr (.slice va l.length vc) l := hV0.out.mono RuleR.ok ⟨hKP.out.size, fun b hb hl => ⟨hb, hKP.out.block b hl hb⟩⟩
      obtain ⟨hlen, ⟨rfl, -⟩ | ⟨b, o, c, e, hlt, -, hc⟩⟩ := hVr.cells
      · simp at hlk
      · cases e
        obtain ⟨u, x, hu, hx, hiu, hix⟩ := hc k hlk
        obtain ⟨a1, c1, e1⟩ := hiu.isSlice
        obtain ⟨a2, c2, e2⟩ := hix.isSlice
        subst e1 e2
        obtain ⟨r1, r2⟩ := HR.out _ (nthR_mem hlk)
        have hb1 := below_alloc wr (.cells #[.slice a1 (nthR l k).1.length c1, .slice a2 (nthR l k).2.length c2] 65)
        have hml1 := hML.out
        unfold MetL at hml1
        rw [if_pos rfl] at hml1
        obtain ⟨⟨θ, hθ⟩, -⟩ := hml1
        have f1 := (tm_chk r1).2
        have f2 := (tm_chk r2).2
        have hC := Lib.hid (meet_calls' (B := w.heap.size + 1 + 1 + 1) hθ (rtP_of r1 r2) _ _ _ (hBN.out.keep hb1) (by rw [f1]; exact hiu.below hb1) (by rw [f2]; exact hix.below hb1))
        have hB1 := Lib.hid hb1
        clear hiu hix r1 r2 f1 f2 hb1 hVr hc hlen hθ
        go_wp2_with fail
        refine hC.out.mono ?_
        rintro e w5 ⟨is, β', rfl, hM, hB5, hK5⟩
        have HM := Lib.hid hM
        have HB5 := Lib.hid hB5
        have hK6 := Lib.hid ((hKP.out.trans (.of_below hB1.out)).trans hK5)
        clear hM hB5 hK5
        have hsn := Lib.hid (metL_snoc hML.out HM.out)
        rw [prT_take hlk] at hsn
        cases is
        · have hS5 := hS0.out.keep hK6.out
          have HS5 := Lib.hid (hS5.put (a := .slice none 0 0) (b := false) (c := 0))
          have hno := Lib.hid (solveR_no (metL_no (m := prT (l.drop (k + 1))) hsn.out))
          rw [← prT_app, List.take_append_drop] at hno
          obtain ⟨-, -, g2, g3, g4, g5, g6, g7⟩ := hS5
          go_wp2_with fail
          have g2' := HS5.out.c2
          have g3' := HS5.out.c3
          have g4' := HS5.out.c4
          refine ⟨.tuple #[.slice none 0 0, .bool false, .int .i64 0], ?_, [], false, 0, .slice none 0 0, rfl, hno.out, ⟨by simp, .inl ⟨rfl, none, 0, rfl, fun _ => rfl⟩⟩, HS5.out.bel⟩
          simp [results, Try.f151, go_sem, g2', g3', g4']
        · go_wp2_with fail
          go_roundw
          case rel => exact ⟨k + 1, by omega, by go_num, β', hsn.out, HB5.out trivial, hK6.out⟩
          case measure => simp [intOf]; omega
    · obtain rfl : k = l.length := by omega
      rw [List.take_length] at hML
      have hml1 := hML.out
      unfold MetL at hml1
      rw [if_pos rfl] at hml1
      obtain ⟨⟨θ, hθ⟩, -⟩ := hml1
      obtain ⟨r, hr⟩ := hθ.rk
      have hsol := Lib.hid (solveR_yes hML.out hθ)
      have Hθ := Lib.hid hθ
      have Hr := Lib.hid hr
      clear hθ hr hML
      obtain ⟨-, hz, g2, g3, g4, g5, g6, g7⟩ := hSr.out
      go_wp2_with fail
      refine (None_calls wr).mono ?_
      rintro e w1 ⟨s, rfl, hO, hBw⟩
      obtain ⟨g, c, cur, rfl, hg, -, hc8⟩ := hO.at (by simp [noneS])
      have hS1 := Lib.hid (hSr.out.below hBw)
      have hN1 := Lib.hid (hBN.out.keep hBw)
      have hg4 : w.heap.size + 4 ≤ g := by omega
      have hgw := (hO.block g rfl).2
      have hS2 := Lib.hid (hS1.out.put1 (a := .slice (some ⟨g, 0, none⟩) 8 c))
      have hN2 := Lib.hid (hN1.out.setSlice (a := ⟨w.heap.size, 0, none⟩) (by simp; omega) hS1.out.c2 (.slice (some ⟨g, 0, none⟩) 8 c))
      have hO2 : Hid (OwnRow wr.heap.size 24 1 TermR (Fr wr.heap.size) (w1.setCell ⟨w.heap.size, 0, none⟩ (.slice (some ⟨g, 0, none⟩) 8 c)) (.slice (some ⟨g, 0, none⟩) 8 c) (rowK θ 0)) := by
        rw [rowK_zero]
        refine OwnRow.mono TermR.ok hO ⟨by simp, fun b hb hl => ⟨hb, Below.heap_setCell _ _ _ _ (by have h1 : wr.heap.size ≤ b := hb; simp; omega)⟩⟩ fun j hj => ?_
        have : j = g := by simp [Value.ownBlock] at hj; exact hj.symm
        subst this
        exact Below.heap_setCell _ _ _ _ (by simp; omega)
      obtain ⟨-, -, g2, g3, g4, g5, g6, g7⟩ := hS1.out
      clear hO hBw hc8
      have hl8 : (noneS.length : Int) = 8 := rfl
      go_wp2_with fail
      go_loopw [29] (fun s29 wr' => ∃ k : Nat, k ≤ 8 ∧ s29 = .int .i64 k ∧ Hid (∀ j : Nat, j < k → (θ (-1 - (j : Int))).size ≤ 30) ∧ Hid (SoSt w wr' (.slice (some ⟨g, 0, none⟩) 8 c) false 0) ∧ Hid (BnIs (w.heap.size + 1 + 1 + 1) wr' β) ∧
        Hid (OwnRow wr.heap.size 24 1 TermR (Fr wr.heap.size) wr' (.slice (some ⟨g, 0, none⟩) 8 c) (rowK θ k))) (fun s29 _ => 8 - (intOf s29).toNat)
      case atStart => exact ⟨0, by omega, rfl, fun j hj => by omega, hS2.out, hN2.out, hO2.out⟩
      case round =>
        rename World => wk
        obtain ⟨k, hk, rfl, hSm, hSk, hNk, hOk⟩ := hrel
        by_cases hk8 : k < 8
        · have hkk : (k : Int) < 8 := by omega
          obtain ⟨⟨u, hcu, hcR⟩, hfz⟩ := hOk.out.cell (k := k) (by rw [rowK_len]; exact hk8)
          rw [rowK_get θ hk8] at hcR
          obtain ⟨u', hu', hiu⟩ := hcR
          cases hu'
          have hiu' : IsInts (fun b => b ≠ w.heap.size + 1 + 1 + 1) (wk.drewN 1) u (Tm.leaf (-1 - (k : Int))).flat := hiu.mono ((Sok.weak fun b hb e => by have h1 : wr.heap.size ≤ b := hb.1; omega).trans (.of_below (below_drewN _ wk 1)))
          have hwh := Lib.hid (whole_calls Hθ.out Hr.out (r (-1 - (k : Int)) + 1) (.leaf (-1 - (k : Int))) u (wk.drewN 1) (by show ar _ = 0; exact ar_neg (by omega)) (fun s hs => by simp [Tm.flat] at hs; omega) (by simp [Tm.size]) (fun s hs _ => by simp [Tm.flat] at hs; subst hs; omega) (hNk.out.keep (below_drewN _ wk 1)) hiu')
          obtain ⟨-, hzk, d2, d3, d4, d5, d6, d7⟩ := hSk.out
          have hl8k : ((rowK θ k).length : Int) = 8 := by rw [rowK_len]; rfl
          have hS9 : Hid (∀ W', Below wk.heap.size wk W' → W'.cell? ⟨w.heap.size, 0, none⟩ = some (.slice (some ⟨g, 0, none⟩) 8 c) ∧ W'.cell? ⟨g, k, none⟩ = some u ∧ W'.frozen? ⟨g, k, none⟩ = false) := fun W' h =>
            ⟨(h.cell (p := ⟨w.heap.size, 0, none⟩) (World.block_lt_of_cell? _ _ d2)).trans d2, (h.cell (p := ⟨g, k, none⟩) (World.block_lt_of_cell? _ _ hcu)).trans hcu, (World.frozen?_of_block (w := wk) (a := ⟨g, k, none⟩) (h.block _ (World.block_lt_of_cell? _ _ hcu))).trans hfz⟩
          have hus : Hid (∃ x n c, u = .slice x n c) := by obtain ⟨a1, a2, e⟩ := hiu.isSlice; exact ⟨_, _, _, e⟩
          have hgk : g < wk.heap.size := World.block_lt_of_cell? _ _ hcu
          clear hiu hiu'
          have hS8 : Hid (∀ W', Below wk.heap.size wk W' → W'.cell? ⟨w.heap.size, 0, none⟩ = some (.slice (some ⟨g, 0, none⟩) 8 c) ∧ W'.frozen? ⟨g, k, none⟩ = false) := fun W' h => ⟨(hS9.out W' h).1, (hS9.out W' h).2.2⟩
          have hS7 : Hid (∀ W' x, Below wk.heap.size wk W' → (W'.setCell ⟨g, k, none⟩ x).cell? ⟨w.heap.size, 0, none⟩ = some (.slice (some ⟨g, 0, none⟩) 8 c) ∧ (W'.setCell ⟨g, k, none⟩ x).frozen? ⟨g, k, none⟩ = false) := fun W' x h =>
            ⟨(World.cell?_setCell_other _ _ _ _ (fun e => by injection e with e; omega)).trans (hS9.out W' h).1, by simp [go_sem, (hS9.out W' h).2.2]⟩
          by_cases hsz : (θ (-1 - (k : Int))).size ≤ 30
          · have hwh2 : Hid (Calls Try.prog 189 #[.pointer (some ⟨w.heap.size + 1 + 1 + 1, 0, none⟩), u] wk.drew fun e w' => ∃ v, e = .returned v ∧ IsInts (Fr wk.heap.size) w' v (θ (-1 - (k : Int))).flat ∧ Below wk.heap.size wk w') := by
              refine hwh.out.mono ?_
              rintro e w' ⟨hb, ⟨-, v, rfl, hv⟩ | ⟨hgt, -⟩⟩
              · rw [leaf_inst (by omega)] at hv
                exact ⟨v, rfl, hv, ext_trans (below_drewN _ wk 1) hb⟩
              · rw [leaf_inst (by omega), size_flat] at hgt
                omega
            clear hwh
            have e1 : wk.drew.cell? ⟨w.heap.size, 0, none⟩ = some (.slice (some ⟨g, 0, none⟩) 8 c) := d2
            have e3 : wk.drew.cell? ⟨g, k, none⟩ = some u := hcu
            clear d2 hcu hfz
            go_wp2_with fail
            refine wp_region_noPanic ?_
            refine wp_region_any (by kernel_rfl) ?_
            change wpAny _ _ _ _ _ _ _ (World.drew _)
            refine wpAny_take (i := 1) (v := ?v1) rfl (by kernel_rfl) (by kernel_rfl) (by kernel_rfl) (fun _ _ _ h => h) (Or.inl ⟨by rfl, ?hy1⟩) ?rest1
            case hy1 => (intro W; (try simp only [List.getElem_toArray, List.getElem_cons_zero, List.getElem_cons_succ]); go_simp <;> with_reducible rfl)
            try simp only [Act.put, List.getElem_toArray, List.getElem_cons_zero, List.getElem_cons_succ, List.setIfInBounds_toArray, List.set_cons_zero, List.set_cons_succ]
            refine wpAny_take (i := 2) (v := ?v2) rfl (by kernel_rfl) (by kernel_rfl) (by kernel_rfl) (fun _ _ _ h => h) (Or.inl ⟨by rfl, ?hy2⟩) ?rest2
            case hy2 => (intro W; (try simp only [List.getElem_toArray, List.getElem_cons_zero, List.getElem_cons_succ]); go_simp <;> with_reducible rfl)
            try simp only [Act.put, List.getElem_toArray, List.getElem_cons_zero, List.getElem_cons_succ, List.setIfInBounds_toArray, List.set_cons_zero, List.set_cons_succ]
            refine wpAny_take (i := 4) (v := ?v3) rfl (by kernel_rfl) (by kernel_rfl) (by kernel_rfl) (fun _ _ _ h => h) (Or.inl ⟨by rfl, ?hy3⟩) ?rest3
            case hy3 => (intro W; (try simp only [List.getElem_toArray, List.getElem_cons_zero, List.getElem_cons_succ]); go_simp <;> with_reducible rfl)
            try simp only [Act.put, List.getElem_toArray, List.getElem_cons_zero, List.getElem_cons_succ, List.setIfInBounds_toArray, List.set_cons_zero, List.set_cons_succ]
            refine wpAny_ready (rs := [0, 3]) (by kernel_rfl) (by simp) ?_
            refine AllReady.cons rfl (fun K0 hK0 => ?_) (AllReady.cons rfl (fun K0 hK0 => ?_) AllReady.nil)
            · (try simp only [List.getElem_toArray, List.getElem_cons_zero])
              go_simp
              refine hK0 _ _ ?_
              clear hK0 K0
              try simp only [Act.put, List.getElem_toArray, List.getElem_cons_zero, List.getElem_cons_succ, List.setIfInBounds_toArray, List.set_cons_zero, List.set_cons_succ]
              refine wpAny_ready (rs := [3]) (by kernel_rfl) (by simp) ?_
              refine AllReady.cons rfl (fun K0 hK0 => ?_) AllReady.nil
              (try simp only [List.getElem_toArray, List.getElem_cons_zero, List.getElem_cons_succ])
              go_simp
              refine hK0 _ _ ?_
              clear hK0 K0
              try simp only [Act.put, List.getElem_toArray, List.getElem_cons_zero, List.getElem_cons_succ, List.setIfInBounds_toArray, List.set_cons_zero, List.set_cons_succ]
              refine wpAny_ready (rs := [5]) (by kernel_rfl) (by simp) ?_
              refine AllReady.cons rfl (fun K0 hK0 => ?_) AllReady.nil
              (try simp only [List.getElem_toArray, List.getElem_cons_zero, List.getElem_cons_succ])
              go_simp
              refine hK0 _ _ ?_
              clear hK0 K0
              try simp only [Act.put, List.getElem_toArray, List.getElem_cons_zero, List.getElem_cons_succ, List.setIfInBounds_toArray, List.set_cons_zero, List.set_cons_succ]
              refine wpAny_ready (rs := [6]) (by kernel_rfl) (by simp) ?_
              refine AllReady.cons rfl (fun K0 hK0 => ?_) AllReady.nil
              (try simp only [List.getElem_toArray, List.getElem_cons_zero, List.getElem_cons_succ])
              go_simp
              refine hK0 _ _ ?_
              clear hK0 K0
              try simp only [Act.put, List.getElem_toArray, List.getElem_cons_zero, List.getElem_cons_succ, List.setIfInBounds_toArray, List.set_cons_zero, List.set_cons_succ]
              refine wpAny_ready (rs := [7]) (by kernel_rfl) (by simp) ?_
              refine AllReady.cons rfl (fun K0 hK0 => ?_) AllReady.nil
              (try simp only [List.getElem_toArray, List.getElem_cons_zero, List.getElem_cons_succ])
              go_simp
              go_at_call 189
              refine hwh2.out.mono ?_
              rintro e w5 ⟨v, rfl, hv, hb⟩
              obtain ⟨va', vc', hvs⟩ := hv.isSlice
              subst hvs
              have HV := Lib.hid (And.intro hv hb)
              obtain ⟨e4, e5, e6⟩ := hS9.out _ hb
              clear hv hb
              (try go_simp)
              refine hK0 _ _ ?_
              clear hK0 K0
              try simp only [Act.put, List.getElem_toArray, List.getElem_cons_zero, List.getElem_cons_succ, List.setIfInBounds_toArray, List.set_cons_zero, List.set_cons_succ]
              refine wpAny_ready (rs := [8]) (by kernel_rfl) (by simp) ?_
              refine AllReady.cons rfl (fun K0 hK0 => ?_) AllReady.nil
              (try simp only [List.getElem_toArray, List.getElem_cons_zero, List.getElem_cons_succ])
              go_simp
              refine hK0 _ _ ?_
              clear hK0 K0
              try simp only [Act.put, List.getElem_toArray, List.getElem_cons_zero, List.getElem_cons_succ, List.setIfInBounds_toArray, List.set_cons_zero, List.set_cons_succ]
              refine wpAny_ready (rs := [9]) (by kernel_rfl) (by simp) ?_
              refine AllReady.cons rfl (fun K0 hK0 => ?_) AllReady.nil
              (try simp only [List.getElem_toArray, List.getElem_cons_zero, List.getElem_cons_succ])
              go_simp
              refine hK0 _ _ ?_
              clear hK0 K0
              try simp only [Act.put, List.getElem_toArray, List.getElem_cons_zero, List.getElem_cons_succ, List.setIfInBounds_toArray, List.set_cons_zero, List.set_cons_succ]
              refine wpAny_done (by kernel_rfl) (NoPanic.normal ?_) _
              have hSm2 : Hid (∀ j : Nat, j < k + 1 → (θ (-1 - (j : Int))).size ≤ 30) := fun j hj => by
                by_cases e : j = k
                · subst e; exact hsz
                · exact hSm.out j (by omega)
              have hS3 := Lib.hid (hSk.out.below HV.out.2)
              have hS4 := Lib.hid (hS3.out.keep3 ((Below.refl _ _).setCell (p := ⟨g, k, none⟩) (by show w.heap.size + 3 ≤ g; omega) (.slice va' (θ (-1 - (k : Int))).flat.length vc')))
              obtain ⟨x1, x2, x3, hus'⟩ := hus.out
              rw [hus'] at e5
              have hN4 := Lib.hid ((hNk.out.keep HV.out.2).setSlice (a := ⟨g, k, none⟩) (by show g ≠ _; omega) e5 (.slice va' (θ (-1 - (k : Int))).flat.length vc'))
              have hO4 := Lib.hid (own_set TermR.ok (hOk.out.below TermR.ok HV.out.2) (k := k) (by rw [rowK_len]; exact hk8) (y := (θ (-1 - (k : Int))).flat) (u := .slice va' (θ (-1 - (k : Int))).flat.length vc')
                ⟨_, rfl, HV.out.1.mono (.weak fun b hb => ⟨by have h1 : wk.heap.size ≤ b := hb; show wr.heap.size ≤ b; omega, by have h1 : wk.heap.size ≤ b := hb; omega⟩)⟩).1
              rw [rowK_set θ hk8] at hO4
              clear hus' e5
              go_wp2_with fail
              go_roundw
              case rel => exact ⟨k + 1, by omega, by go_num, hSm2.out, hS4.out, hN4.out, hO4.out⟩
              case measure => simp [intOf]; omega
            · (try simp only [List.getElem_toArray, List.getElem_cons_zero, List.getElem_cons_succ])
              go_simp
              refine hK0 _ _ ?_
              clear hK0 K0
              try simp only [Act.put, List.getElem_toArray, List.getElem_cons_zero, List.getElem_cons_succ, List.setIfInBounds_toArray, List.set_cons_zero, List.set_cons_succ]
              refine wpAny_ready (rs := [0, 5]) (by kernel_rfl) (by simp) ?_
              refine AllReady.cons rfl (fun K0 hK0 => ?_) (AllReady.cons rfl (fun K0 hK0 => ?_) AllReady.nil)
              · (try simp only [List.getElem_toArray, List.getElem_cons_zero])
                go_simp
                refine hK0 _ _ ?_
                clear hK0 K0
                try simp only [Act.put, List.getElem_toArray, List.getElem_cons_zero, List.getElem_cons_succ, List.setIfInBounds_toArray, List.set_cons_zero, List.set_cons_succ]
                refine wpAny_ready (rs := [5]) (by kernel_rfl) (by simp) ?_
                refine AllReady.cons rfl (fun K0 hK0 => ?_) AllReady.nil
                (try simp only [List.getElem_toArray, List.getElem_cons_zero, List.getElem_cons_succ])
                go_simp
                refine hK0 _ _ ?_
                clear hK0 K0
                try simp only [Act.put, List.getElem_toArray, List.getElem_cons_zero, List.getElem_cons_succ, List.setIfInBounds_toArray, List.set_cons_zero, List.set_cons_succ]
                refine wpAny_ready (rs := [6]) (by kernel_rfl) (by simp) ?_
                refine AllReady.cons rfl (fun K0 hK0 => ?_) AllReady.nil
                (try simp only [List.getElem_toArray, List.getElem_cons_zero, List.getElem_cons_succ])
                go_simp
                refine hK0 _ _ ?_
                clear hK0 K0
                try simp only [Act.put, List.getElem_toArray, List.getElem_cons_zero, List.getElem_cons_succ, List.setIfInBounds_toArray, List.set_cons_zero, List.set_cons_succ]
                refine wpAny_ready (rs := [7]) (by kernel_rfl) (by simp) ?_
                refine AllReady.cons rfl (fun K0 hK0 => ?_) AllReady.nil
                (try simp only [List.getElem_toArray, List.getElem_cons_zero, List.getElem_cons_succ])
                go_simp
                go_at_call 189
                refine hwh2.out.mono ?_
                rintro e w5 ⟨v, rfl, hv, hb⟩
                obtain ⟨va', vc', hvs⟩ := hv.isSlice
                subst hvs
                have HV := Lib.hid (And.intro hv hb)
                obtain ⟨e4, e5, e6⟩ := hS9.out _ hb
                clear hv hb
                (try go_simp)
                refine hK0 _ _ ?_
                clear hK0 K0
                try simp only [Act.put, List.getElem_toArray, List.getElem_cons_zero, List.getElem_cons_succ, List.setIfInBounds_toArray, List.set_cons_zero, List.set_cons_succ]
                refine wpAny_ready (rs := [8]) (by kernel_rfl) (by simp) ?_
                refine AllReady.cons rfl (fun K0 hK0 => ?_) AllReady.nil
                (try simp only [List.getElem_toArray, List.getElem_cons_zero, List.getElem_cons_succ])
                go_simp
                refine hK0 _ _ ?_
                clear hK0 K0
                try simp only [Act.put, List.getElem_toArray, List.getElem_cons_zero, List.getElem_cons_succ, List.setIfInBounds_toArray, List.set_cons_zero, List.set_cons_succ]
                refine wpAny_ready (rs := [9]) (by kernel_rfl) (by simp) ?_
                refine AllReady.cons rfl (fun K0 hK0 => ?_) AllReady.nil
                (try simp only [List.getElem_toArray, List.getElem_cons_zero, List.getElem_cons_succ])
                go_simp
                refine hK0 _ _ ?_
                clear hK0 K0
                try simp only [Act.put, List.getElem_toArray, List.getElem_cons_zero, List.getElem_cons_succ, List.setIfInBounds_toArray, List.set_cons_zero, List.set_cons_succ]
                refine wpAny_done (by kernel_rfl) (NoPanic.normal ?_) _
                have hSm2 : Hid (∀ j : Nat, j < k + 1 → (θ (-1 - (j : Int))).size ≤ 30) := fun j hj => by
                  by_cases e : j = k
                  · subst e; exact hsz
                  · exact hSm.out j (by omega)
                have hS3 := Lib.hid (hSk.out.below HV.out.2)
                have hS4 := Lib.hid (hS3.out.keep3 ((Below.refl _ _).setCell (p := ⟨g, k, none⟩) (by show w.heap.size + 3 ≤ g; omega) (.slice va' (θ (-1 - (k : Int))).flat.length vc')))
                obtain ⟨x1, x2, x3, hus'⟩ := hus.out
                rw [hus'] at e5
                have hN4 := Lib.hid ((hNk.out.keep HV.out.2).setSlice (a := ⟨g, k, none⟩) (by show g ≠ _; omega) e5 (.slice va' (θ (-1 - (k : Int))).flat.length vc'))
                have hO4 := Lib.hid (own_set TermR.ok (hOk.out.below TermR.ok HV.out.2) (k := k) (by rw [rowK_len]; exact hk8) (y := (θ (-1 - (k : Int))).flat) (u := .slice va' (θ (-1 - (k : Int))).flat.length vc')
                  ⟨_, rfl, HV.out.1.mono (.weak fun b hb => ⟨by have h1 : wk.heap.size ≤ b := hb; show wr.heap.size ≤ b; omega, by have h1 : wk.heap.size ≤ b := hb; omega⟩)⟩).1
                rw [rowK_set θ hk8] at hO4
                clear hus' e5
                go_wp2_with fail
                go_roundw
                case rel => exact ⟨k + 1, by omega, by go_num, hSm2.out, hS4.out, hN4.out, hO4.out⟩
                case measure => simp [intOf]; omega
              · (try simp only [List.getElem_toArray, List.getElem_cons_zero, List.getElem_cons_succ])
                go_simp
                refine hK0 _ _ ?_
                clear hK0 K0
                try simp only [Act.put, List.getElem_toArray, List.getElem_cons_zero, List.getElem_cons_succ, List.setIfInBounds_toArray, List.set_cons_zero, List.set_cons_succ]
                refine wpAny_ready (rs := [0, 6]) (by kernel_rfl) (by simp) ?_
                refine AllReady.cons rfl (fun K0 hK0 => ?_) (AllReady.cons rfl (fun K0 hK0 => ?_) AllReady.nil)
                · (try simp only [List.getElem_toArray, List.getElem_cons_zero])
                  go_simp
                  refine hK0 _ _ ?_
                  clear hK0 K0
                  try simp only [Act.put, List.getElem_toArray, List.getElem_cons_zero, List.getElem_cons_succ, List.setIfInBounds_toArray, List.set_cons_zero, List.set_cons_succ]
                  refine wpAny_ready (rs := [6]) (by kernel_rfl) (by simp) ?_
                  refine AllReady.cons rfl (fun K0 hK0 => ?_) AllReady.nil
                  (try simp only [List.getElem_toArray, List.getElem_cons_zero, List.getElem_cons_succ])
                  go_simp
                  refine hK0 _ _ ?_
                  clear hK0 K0
                  try simp only [Act.put, List.getElem_toArray, List.getElem_cons_zero, List.getElem_cons_succ, List.setIfInBounds_toArray, List.set_cons_zero, List.set_cons_succ]
                  refine wpAny_ready (rs := [7]) (by kernel_rfl) (by simp) ?_
                  refine AllReady.cons rfl (fun K0 hK0 => ?_) AllReady.nil
                  (try simp only [List.getElem_toArray, List.getElem_cons_zero, List.getElem_cons_succ])
                  go_simp
                  go_at_call 189
                  refine hwh2.out.mono ?_
                  rintro e w5 ⟨v, rfl, hv, hb⟩
                  obtain ⟨va', vc', hvs⟩ := hv.isSlice
                  subst hvs
                  have HV := Lib.hid (And.intro hv hb)
                  obtain ⟨e4, e5, e6⟩ := hS9.out _ hb
                  clear hv hb
                  (try go_simp)
                  refine hK0 _ _ ?_
                  clear hK0 K0
                  try simp only [Act.put, List.getElem_toArray, List.getElem_cons_zero, List.getElem_cons_succ, List.setIfInBounds_toArray, List.set_cons_zero, List.set_cons_succ]
                  refine wpAny_ready (rs := [8]) (by kernel_rfl) (by simp) ?_
                  refine AllReady.cons rfl (fun K0 hK0 => ?_) AllReady.nil
                  (try simp only [List.getElem_toArray, List.getElem_cons_zero, List.getElem_cons_succ])
                  go_simp
                  refine hK0 _ _ ?_
                  clear hK0 K0
                  try simp only [Act.put, List.getElem_toArray, List.getElem_cons_zero, List.getElem_cons_succ, List.setIfInBounds_toArray, List.set_cons_zero, List.set_cons_succ]
                  refine wpAny_ready (rs := [9]) (by kernel_rfl) (by simp) ?_
                  refine AllReady.cons rfl (fun K0 hK0 => ?_) AllReady.nil
                  (try simp only [List.getElem_toArray, List.getElem_cons_zero, List.getElem_cons_succ])
                  go_simp
                  refine hK0 _ _ ?_
                  clear hK0 K0
                  try simp only [Act.put, List.getElem_toArray, List.getElem_cons_zero, List.getElem_cons_succ, List.setIfInBounds_toArray, List.set_cons_zero, List.set_cons_succ]
                  refine wpAny_done (by kernel_rfl) (NoPanic.normal ?_) _
                  have hSm2 : Hid (∀ j : Nat, j < k + 1 → (θ (-1 - (j : Int))).size ≤ 30) := fun j hj => by
                    by_cases e : j = k
                    · subst e; exact hsz
                    · exact hSm.out j (by omega)
                  have hS3 := Lib.hid (hSk.out.below HV.out.2)
                  have hS4 := Lib.hid (hS3.out.keep3 ((Below.refl _ _).setCell (p := ⟨g, k, none⟩) (by show w.heap.size + 3 ≤ g; omega) (.slice va' (θ (-1 - (k : Int))).flat.length vc')))
                  obtain ⟨x1, x2, x3, hus'⟩ := hus.out
                  rw [hus'] at e5
                  have hN4 := Lib.hid ((hNk.out.keep HV.out.2).setSlice (a := ⟨g, k, none⟩) (by show g ≠ _; omega) e5 (.slice va' (θ (-1 - (k : Int))).flat.length vc'))
                  have hO4 := Lib.hid (own_set TermR.ok (hOk.out.below TermR.ok HV.out.2) (k := k) (by rw [rowK_len]; exact hk8) (y := (θ (-1 - (k : Int))).flat) (u := .slice va' (θ (-1 - (k : Int))).flat.length vc')
                    ⟨_, rfl, HV.out.1.mono (.weak fun b hb => ⟨by have h1 : wk.heap.size ≤ b := hb; show wr.heap.size ≤ b; omega, by have h1 : wk.heap.size ≤ b := hb; omega⟩)⟩).1
                  rw [rowK_set θ hk8] at hO4
                  clear hus' e5
                  go_wp2_with fail
                  go_roundw
                  case rel => exact ⟨k + 1, by omega, by go_num, hSm2.out, hS4.out, hN4.out, hO4.out⟩
                  case measure => simp [intOf]; omega
                · (try simp only [List.getElem_toArray, List.getElem_cons_zero, List.getElem_cons_succ])
                  go_simp
                  refine hK0 _ _ ?_
                  clear hK0 K0
                  try simp only [Act.put, List.getElem_toArray, List.getElem_cons_zero, List.getElem_cons_succ, List.setIfInBounds_toArray, List.set_cons_zero, List.set_cons_succ]
                  refine wpAny_ready (rs := [0, 7]) (by kernel_rfl) (by simp) ?_
                  refine AllReady.cons rfl (fun K0 hK0 => ?_) (AllReady.cons rfl (fun K0 hK0 => ?_) AllReady.nil)
                  · (try simp only [List.getElem_toArray, List.getElem_cons_zero])
                    go_simp
                    refine hK0 _ _ ?_
                    clear hK0 K0
                    try simp only [Act.put, List.getElem_toArray, List.getElem_cons_zero, List.getElem_cons_succ, List.setIfInBounds_toArray, List.set_cons_zero, List.set_cons_succ]
                    refine wpAny_ready (rs := [7]) (by kernel_rfl) (by simp) ?_
                    refine AllReady.cons rfl (fun K0 hK0 => ?_) AllReady.nil
                    (try simp only [List.getElem_toArray, List.getElem_cons_zero, List.getElem_cons_succ])
                    go_simp
                    go_at_call 189
                    refine hwh2.out.mono ?_
                    rintro e w5 ⟨v, rfl, hv, hb⟩
                    obtain ⟨va', vc', hvs⟩ := hv.isSlice
                    subst hvs
                    have HV := Lib.hid (And.intro hv hb)
                    obtain ⟨e4, e5, e6⟩ := hS9.out _ hb
                    clear hv hb
                    (try go_simp)
                    refine hK0 _ _ ?_
                    clear hK0 K0
                    try simp only [Act.put, List.getElem_toArray, List.getElem_cons_zero, List.getElem_cons_succ, List.setIfInBounds_toArray, List.set_cons_zero, List.set_cons_succ]
                    refine wpAny_ready (rs := [8]) (by kernel_rfl) (by simp) ?_
                    refine AllReady.cons rfl (fun K0 hK0 => ?_) AllReady.nil
                    (try simp only [List.getElem_toArray, List.getElem_cons_zero, List.getElem_cons_succ])
                    go_simp
                    refine hK0 _ _ ?_
                    clear hK0 K0
                    try simp only [Act.put, List.getElem_toArray, List.getElem_cons_zero, List.getElem_cons_succ, List.setIfInBounds_toArray, List.set_cons_zero, List.set_cons_succ]
                    refine wpAny_ready (rs := [9]) (by kernel_rfl) (by simp) ?_
                    refine AllReady.cons rfl (fun K0 hK0 => ?_) AllReady.nil
                    (try simp only [List.getElem_toArray, List.getElem_cons_zero, List.getElem_cons_succ])
                    go_simp
                    refine hK0 _ _ ?_
                    clear hK0 K0
                    try simp only [Act.put, List.getElem_toArray, List.getElem_cons_zero, List.getElem_cons_succ, List.setIfInBounds_toArray, List.set_cons_zero, List.set_cons_succ]
                    refine wpAny_done (by kernel_rfl) (NoPanic.normal ?_) _
                    have hSm2 : Hid (∀ j : Nat, j < k + 1 → (θ (-1 - (j : Int))).size ≤ 30) := fun j hj => by
                      by_cases e : j = k
                      · subst e; exact hsz
                      · exact hSm.out j (by omega)
                    have hS3 := Lib.hid (hSk.out.below HV.out.2)
                    have hS4 := Lib.hid (hS3.out.keep3 ((Below.refl _ _).setCell (p := ⟨g, k, none⟩) (by show w.heap.size + 3 ≤ g; omega) (.slice va' (θ (-1 - (k : Int))).flat.length vc')))
                    obtain ⟨x1, x2, x3, hus'⟩ := hus.out
                    rw [hus'] at e5
                    have hN4 := Lib.hid ((hNk.out.keep HV.out.2).setSlice (a := ⟨g, k, none⟩) (by show g ≠ _; omega) e5 (.slice va' (θ (-1 - (k : Int))).flat.length vc'))
                    have hO4 := Lib.hid (own_set TermR.ok (hOk.out.below TermR.ok HV.out.2) (k := k) (by rw [rowK_len]; exact hk8) (y := (θ (-1 - (k : Int))).flat) (u := .slice va' (θ (-1 - (k : Int))).flat.length vc')
                      ⟨_, rfl, HV.out.1.mono (.weak fun b hb => ⟨by have h1 : wk.heap.size ≤ b := hb; show wr.heap.size ≤ b; omega, by have h1 : wk.heap.size ≤ b := hb; omega⟩)⟩).1
                    rw [rowK_set θ hk8] at hO4
                    clear hus' e5
                    go_wp2_with fail
                    go_roundw
                    case rel => exact ⟨k + 1, by omega, by go_num, hSm2.out, hS4.out, hN4.out, hO4.out⟩
                    case measure => simp [intOf]; omega
                  · (try simp only [List.getElem_toArray, List.getElem_cons_zero, List.getElem_cons_succ])
                    go_simp
                    go_at_call 189
                    refine hwh2.out.mono ?_
                    rintro e w5 ⟨v, rfl, hv, hb⟩
                    obtain ⟨va', vc', hvs⟩ := hv.isSlice
                    subst hvs
                    have HV := Lib.hid (And.intro hv hb)
                    obtain ⟨e4, e5, e6⟩ := hS9.out _ hb
                    clear hv hb
                    (try go_simp)
                    refine hK0 _ _ ?_
                    clear hK0 K0
                    try simp only [Act.put, List.getElem_toArray, List.getElem_cons_zero, List.getElem_cons_succ, List.setIfInBounds_toArray, List.set_cons_zero, List.set_cons_succ]
                    refine wpAny_ready (rs := [0]) (by kernel_rfl) (by simp) ?_
                    refine AllReady.cons rfl (fun K0 hK0 => ?_) AllReady.nil
                    (try simp only [List.getElem_toArray, List.getElem_cons_zero])
                    go_simp
                    refine hK0 _ _ ?_
                    clear hK0 K0
                    try simp only [Act.put, List.getElem_toArray, List.getElem_cons_zero, List.getElem_cons_succ, List.setIfInBounds_toArray, List.set_cons_zero, List.set_cons_succ]
                    refine wpAny_ready (rs := [8]) (by kernel_rfl) (by simp) ?_
                    refine AllReady.cons rfl (fun K0 hK0 => ?_) AllReady.nil
                    (try simp only [List.getElem_toArray, List.getElem_cons_zero, List.getElem_cons_succ])
                    go_simp
                    refine hK0 _ _ ?_
                    clear hK0 K0
                    try simp only [Act.put, List.getElem_toArray, List.getElem_cons_zero, List.getElem_cons_succ, List.setIfInBounds_toArray, List.set_cons_zero, List.set_cons_succ]
                    refine wpAny_ready (rs := [9]) (by kernel_rfl) (by simp) ?_
                    refine AllReady.cons rfl (fun K0 hK0 => ?_) AllReady.nil
                    (try simp only [List.getElem_toArray, List.getElem_cons_zero, List.getElem_cons_succ])
                    go_simp
                    refine hK0 _ _ ?_
                    clear hK0 K0
                    try simp only [Act.put, List.getElem_toArray, List.getElem_cons_zero, List.getElem_cons_succ, List.setIfInBounds_toArray, List.set_cons_zero, List.set_cons_succ]
                    refine wpAny_done (by kernel_rfl) (NoPanic.normal ?_) _
                    have hSm2 : Hid (∀ j : Nat, j < k + 1 → (θ (-1 - (j : Int))).size ≤ 30) := fun j hj => by
                      by_cases e : j = k
                      · subst e; exact hsz
                      · exact hSm.out j (by omega)
                    have hS3 := Lib.hid (hSk.out.below HV.out.2)
                    have hS4 := Lib.hid (hS3.out.keep3 ((Below.refl _ _).setCell (p := ⟨g, k, none⟩) (by show w.heap.size + 3 ≤ g; omega) (.slice va' (θ (-1 - (k : Int))).flat.length vc')))
                    obtain ⟨x1, x2, x3, hus'⟩ := hus.out
                    rw [hus'] at e5
                    have hN4 := Lib.hid ((hNk.out.keep HV.out.2).setSlice (a := ⟨g, k, none⟩) (by show g ≠ _; omega) e5 (.slice va' (θ (-1 - (k : Int))).flat.length vc'))
                    have hO4 := Lib.hid (own_set TermR.ok (hOk.out.below TermR.ok HV.out.2) (k := k) (by rw [rowK_len]; exact hk8) (y := (θ (-1 - (k : Int))).flat) (u := .slice va' (θ (-1 - (k : Int))).flat.length vc')
                      ⟨_, rfl, HV.out.1.mono (.weak fun b hb => ⟨by have h1 : wk.heap.size ≤ b := hb; show wr.heap.size ≤ b; omega, by have h1 : wk.heap.size ≤ b := hb; omega⟩)⟩).1
                    rw [rowK_set θ hk8] at hO4
                    clear hus' e5
                    go_wp2_with fail
                    go_roundw
                    case rel => exact ⟨k + 1, by omega, by go_num, hSm2.out, hS4.out, hN4.out, hO4.out⟩
                    case measure => simp [intOf]; omega
          · have hwp : Hid (Calls Try.prog 189 #[.pointer (some ⟨w.heap.size + 1 + 1 + 1, 0, none⟩), u] wk.drew fun e w' => e = .panicked thrown ∧ Below wk.heap.size wk w') := by
              refine hwh.out.mono ?_
              rintro e w' ⟨hb, ⟨hle, v, -, -⟩ | ⟨-, rfl⟩⟩
              · rw [leaf_inst (by omega), size_flat] at hle
                omega
              · exact ⟨rfl, ext_trans (below_drewN _ wk 1) hb⟩
            have hbig : Hid (¬ smallS θ) := fun h => hsz (h k hk8)
            have hL := Lib.hid (leaves_thrown hSk.out (solE_big hsol.out.1 hsol.out.2 hbig.out))
            have e2 : wk.drew.cell? ⟨w.heap.size, 0, none⟩ = some (.slice (some ⟨g, 0, none⟩) 8 c) := d2
            have e3 : wk.drew.cell? ⟨g, k, none⟩ = some u := hcu
            clear hwh d2 hcu
            go_wp2_with fail
            refine wp_mono (Q := PnQ w.heap.size wk) ?_ (fun e a' w' h => ?_)
            rotate_left
            · cases e with
              | panic ch => exact hL.out a' w' ch h
              | _ => exact (h : False).elim
            refine wp_region_any (by kernel_rfl) ?_
            change wpAny _ _ _ _ _ _ _ (World.drew _)
            refine wpAny_take (i := 1) (v := ?v4) rfl (by kernel_rfl) (by kernel_rfl) (by kernel_rfl) (fun _ _ _ h => pn_put (d := 33) (by decide) h) (Or.inl ⟨by rfl, ?hy4⟩) ?rest4
            case hy4 => (intro W; (try simp only [List.getElem_toArray, List.getElem_cons_zero, List.getElem_cons_succ]); go_simp <;> with_reducible rfl)
            try simp only [Act.put, List.getElem_toArray, List.getElem_cons_zero, List.getElem_cons_succ, List.setIfInBounds_toArray, List.set_cons_zero, List.set_cons_succ]
            refine wpAny_take (i := 2) (v := ?v5) rfl (by kernel_rfl) (by kernel_rfl) (by kernel_rfl) (fun _ _ _ h => pn_put (d := 34) (by decide) h) (Or.inl ⟨by rfl, ?hy5⟩) ?rest5
            case hy5 => (intro W; (try simp only [List.getElem_toArray, List.getElem_cons_zero, List.getElem_cons_succ]); go_simp <;> with_reducible rfl)
            try simp only [Act.put, List.getElem_toArray, List.getElem_cons_zero, List.getElem_cons_succ, List.setIfInBounds_toArray, List.set_cons_zero, List.set_cons_succ]
            refine wpAny_take (i := 4) (v := ?v6) rfl (by kernel_rfl) (by kernel_rfl) (by kernel_rfl) (fun _ _ _ h => pn_put (d := 36) (by decide) h) (Or.inl ⟨by rfl, ?hy6⟩) ?rest6
            case hy6 => (intro W; (try simp only [List.getElem_toArray, List.getElem_cons_zero, List.getElem_cons_succ]); go_simp <;> with_reducible rfl)
            try simp only [Act.put, List.getElem_toArray, List.getElem_cons_zero, List.getElem_cons_succ, List.setIfInBounds_toArray, List.set_cons_zero, List.set_cons_succ]
            refine wpAny_ready (rs := [0, 3]) (by kernel_rfl) (by simp) ?_
            refine AllReady.cons rfl (fun K0 hK0 => ?_) (AllReady.cons rfl (fun K0 hK0 => ?_) AllReady.nil)
            · (try simp only [List.getElem_toArray, List.getElem_cons_zero])
              go_simp
              refine hK0 _ _ ?_
              clear hK0 K0
              try simp only [Act.put, List.getElem_toArray, List.getElem_cons_zero, List.getElem_cons_succ, List.setIfInBounds_toArray, List.set_cons_zero, List.set_cons_succ]
              refine wpAny_ready (rs := [3]) (by kernel_rfl) (by simp) ?_
              refine AllReady.cons rfl (fun K0 hK0 => ?_) AllReady.nil
              (try simp only [List.getElem_toArray, List.getElem_cons_zero, List.getElem_cons_succ])
              go_simp
              refine hK0 _ _ ?_
              clear hK0 K0
              try simp only [Act.put, List.getElem_toArray, List.getElem_cons_zero, List.getElem_cons_succ, List.setIfInBounds_toArray, List.set_cons_zero, List.set_cons_succ]
              refine wpAny_ready (rs := [5]) (by kernel_rfl) (by simp) ?_
              refine AllReady.cons rfl (fun K0 hK0 => ?_) AllReady.nil
              (try simp only [List.getElem_toArray, List.getElem_cons_zero, List.getElem_cons_succ])
              go_simp
              refine hK0 _ _ ?_
              clear hK0 K0
              try simp only [Act.put, List.getElem_toArray, List.getElem_cons_zero, List.getElem_cons_succ, List.setIfInBounds_toArray, List.set_cons_zero, List.set_cons_succ]
              refine wpAny_ready (rs := [6]) (by kernel_rfl) (by simp) ?_
              refine AllReady.cons rfl (fun K0 hK0 => ?_) AllReady.nil
              (try simp only [List.getElem_toArray, List.getElem_cons_zero, List.getElem_cons_succ])
              go_simp
              refine hK0 _ _ ?_
              clear hK0 K0
              try simp only [Act.put, List.getElem_toArray, List.getElem_cons_zero, List.getElem_cons_succ, List.setIfInBounds_toArray, List.set_cons_zero, List.set_cons_succ]
              refine wpAny_ready (rs := [7]) (by kernel_rfl) (by simp) ?_
              refine AllReady.cons rfl (fun K0 hK0 => ?_) AllReady.nil
              (try simp only [List.getElem_toArray, List.getElem_cons_zero, List.getElem_cons_succ])
              go_simp
              go_at_call 189
              refine hwp.out.mono ?_
              rintro e w5 ⟨rfl, hb⟩
              exact ⟨⟨rfl, rfl, rfl, rfl⟩, rfl, hb⟩
            · (try simp only [List.getElem_toArray, List.getElem_cons_zero, List.getElem_cons_succ])
              go_simp
              refine hK0 _ _ ?_
              clear hK0 K0
              try simp only [Act.put, List.getElem_toArray, List.getElem_cons_zero, List.getElem_cons_succ, List.setIfInBounds_toArray, List.set_cons_zero, List.set_cons_succ]
              refine wpAny_ready (rs := [0, 5]) (by kernel_rfl) (by simp) ?_
              refine AllReady.cons rfl (fun K0 hK0 => ?_) (AllReady.cons rfl (fun K0 hK0 => ?_) AllReady.nil)
              · (try simp only [List.getElem_toArray, List.getElem_cons_zero])
                go_simp
                refine hK0 _ _ ?_
                clear hK0 K0
                try simp only [Act.put, List.getElem_toArray, List.getElem_cons_zero, List.getElem_cons_succ, List.setIfInBounds_toArray, List.set_cons_zero, List.set_cons_succ]
                refine wpAny_ready (rs := [5]) (by kernel_rfl) (by simp) ?_
                refine AllReady.cons rfl (fun K0 hK0 => ?_) AllReady.nil
                (try simp only [List.getElem_toArray, List.getElem_cons_zero, List.getElem_cons_succ])
                go_simp
                refine hK0 _ _ ?_
                clear hK0 K0
                try simp only [Act.put, List.getElem_toArray, List.getElem_cons_zero, List.getElem_cons_succ, List.setIfInBounds_toArray, List.set_cons_zero, List.set_cons_succ]
                refine wpAny_ready (rs := [6]) (by kernel_rfl) (by simp) ?_
                refine AllReady.cons rfl (fun K0 hK0 => ?_) AllReady.nil
                (try simp only [List.getElem_toArray, List.getElem_cons_zero, List.getElem_cons_succ])
                go_simp
                refine hK0 _ _ ?_
                clear hK0 K0
                try simp only [Act.put, List.getElem_toArray, List.getElem_cons_zero, List.getElem_cons_succ, List.setIfInBounds_toArray, List.set_cons_zero, List.set_cons_succ]
                refine wpAny_ready (rs := [7]) (by kernel_rfl) (by simp) ?_
                refine AllReady.cons rfl (fun K0 hK0 => ?_) AllReady.nil
                (try simp only [List.getElem_toArray, List.getElem_cons_zero, List.getElem_cons_succ])
                go_simp
                go_at_call 189
                refine hwp.out.mono ?_
                rintro e w5 ⟨rfl, hb⟩
                exact ⟨⟨rfl, rfl, rfl, rfl⟩, rfl, hb⟩
              · (try simp only [List.getElem_toArray, List.getElem_cons_zero, List.getElem_cons_succ])
                go_simp
                refine hK0 _ _ ?_
                clear hK0 K0
                try simp only [Act.put, List.getElem_toArray, List.getElem_cons_zero, List.getElem_cons_succ, List.setIfInBounds_toArray, List.set_cons_zero, List.set_cons_succ]
                refine wpAny_ready (rs := [0, 6]) (by kernel_rfl) (by simp) ?_
                refine AllReady.cons rfl (fun K0 hK0 => ?_) (AllReady.cons rfl (fun K0 hK0 => ?_) AllReady.nil)
                · (try simp only [List.getElem_toArray, List.getElem_cons_zero])
                  go_simp
                  refine hK0 _ _ ?_
                  clear hK0 K0
                  try simp only [Act.put, List.getElem_toArray, List.getElem_cons_zero, List.getElem_cons_succ, List.setIfInBounds_toArray, List.set_cons_zero, List.set_cons_succ]
                  refine wpAny_ready (rs := [6]) (by kernel_rfl) (by simp) ?_
                  refine AllReady.cons rfl (fun K0 hK0 => ?_) AllReady.nil
                  (try simp only [List.getElem_toArray, List.getElem_cons_zero, List.getElem_cons_succ])
                  go_simp
                  refine hK0 _ _ ?_
                  clear hK0 K0
                  try simp only [Act.put, List.getElem_toArray, List.getElem_cons_zero, List.getElem_cons_succ, List.setIfInBounds_toArray, List.set_cons_zero, List.set_cons_succ]
                  refine wpAny_ready (rs := [7]) (by kernel_rfl) (by simp) ?_
                  refine AllReady.cons rfl (fun K0 hK0 => ?_) AllReady.nil
                  (try simp only [List.getElem_toArray, List.getElem_cons_zero, List.getElem_cons_succ])
                  go_simp
                  go_at_call 189
                  refine hwp.out.mono ?_
                  rintro e w5 ⟨rfl, hb⟩
                  exact ⟨⟨rfl, rfl, rfl, rfl⟩, rfl, hb⟩
                · (try simp only [List.getElem_toArray, List.getElem_cons_zero, List.getElem_cons_succ])
                  go_simp
                  refine hK0 _ _ ?_
                  clear hK0 K0
                  try simp only [Act.put, List.getElem_toArray, List.getElem_cons_zero, List.getElem_cons_succ, List.setIfInBounds_toArray, List.set_cons_zero, List.set_cons_succ]
                  refine wpAny_ready (rs := [0, 7]) (by kernel_rfl) (by simp) ?_
                  refine AllReady.cons rfl (fun K0 hK0 => ?_) (AllReady.cons rfl (fun K0 hK0 => ?_) AllReady.nil)
                  · (try simp only [List.getElem_toArray, List.getElem_cons_zero])
                    go_simp
                    refine hK0 _ _ ?_
                    clear hK0 K0
                    try simp only [Act.put, List.getElem_toArray, List.getElem_cons_zero, List.getElem_cons_succ, List.setIfInBounds_toArray, List.set_cons_zero, List.set_cons_succ]
                    refine wpAny_ready (rs := [7]) (by kernel_rfl) (by simp) ?_
                    refine AllReady.cons rfl (fun K0 hK0 => ?_) AllReady.nil
                    (try simp only [List.getElem_toArray, List.getElem_cons_zero, List.getElem_cons_succ])
                    go_simp
                    go_at_call 189
                    refine hwp.out.mono ?_
                    rintro e w5 ⟨rfl, hb⟩
                    exact ⟨⟨rfl, rfl, rfl, rfl⟩, rfl, hb⟩
                  · (try simp only [List.getElem_toArray, List.getElem_cons_zero, List.getElem_cons_succ])
                    go_simp
                    go_at_call 189
                    refine hwp.out.mono ?_
                    rintro e w5 ⟨rfl, hb⟩
                    exact ⟨⟨rfl, rfl, rfl, rfl⟩, rfl, hb⟩
        · obtain rfl : k = 8 := by omega
          have hsm : Hid (smallS θ) := fun j hj => hSm.out j hj
          have hrow := hOk.out
          rw [rowK_all] at hrow
          have hROW := Lib.hid hrow
          obtain ⟨-, hzk, d2, d3, d4, d5, d6, d7⟩ := hSk.out
          clear hrow hOk
          go_wp2_with fail
          exact leaves_fine hSk.out hROW.out hz hsol.out.1 hsol.out.2 hsm.out _ rfl rfl rfl rfl

end Go.Proofs.Ytepddehodmljeaa

namespace Go.Proofs.Ytepddehodmljeaa
open Go.RowKit Go.Maps

theorem lit_prs1 {w : World} {n : Nat} (hn : n = w.heap.size) {u v : Value} {r : List Int × List Int} (ty : TypeId) (hu : IsInts Any w u r.1) (hv : IsInts Any w v r.2) :
    IsRules Any (w.alloc (.cells #[u, v] ty)) (.slice (some ⟨n, 0, none⟩) 1 1) [r] := by
  subst hn
  have hb := below_alloc w (.cells #[u, v] ty)
  refine ⟨by simp, .inr ⟨by simp, w.heap.size, 0, 1, rfl, by simp, trivial, by simp, [u, v], ⟨[u, v], [], rfl, rfl, ⟨u, v, rfl, hu.below hb, hv.below hb⟩, rfl⟩, fun j x hj => ?_⟩⟩
  rw [World.cell?_alloc_at _ _ _ _ rfl, Nat.zero_add]
  simpa using hj
theorem lit_prs2 {w : World} {n : Nat} (hn : n = w.heap.size) {u v u' v' : Value} {r r' : List Int × List Int} (ty : TypeId) (hu : IsInts Any w u r.1) (hv : IsInts Any w v r.2) (hu' : IsInts Any w u' r'.1) (hv' : IsInts Any w v' r'.2) :
    IsRules Any (w.alloc (.cells #[u, v, u', v'] ty)) (.slice (some ⟨n, 0, none⟩) 2 2) [r, r'] := by
  subst hn
  have hb := below_alloc w (.cells #[u, v, u', v'] ty)
  refine ⟨by simp, .inr ⟨by simp, w.heap.size, 0, 2, rfl, by simp, trivial, by simp, [u, v, u', v'], ⟨[u, v], [u', v'], rfl, rfl, ⟨u, v, rfl, hu.below hb, hv.below hb⟩, [u', v'], [], rfl, rfl, ⟨u', v', rfl, hu'.below hb, hv'.below hb⟩, rfl⟩, fun j x hj => ?_⟩⟩
  rw [World.cell?_alloc_at _ _ _ _ rfl, Nat.zero_add]
  simpa using hj

def MeetE (a b : List Int) (w : World) (e : Ending) (w' : World) : Prop :=
  ∃ s is er x, e = .returned (.tuple #[x, .bool is, .int .i64 er]) ∧ MeetR a b s is er ∧ IsTerms (Fr w.heap.size) w' x s ∧ Below w.heap.size w w'

set_option maxRecDepth 100000 in
theorem Meet_calls (a b : List Int) (u v : Value) (w : World) (hu : IsInts Any w u a) (hv : IsInts Any w v b) : Calls Try.prog 81 #[u, v] w (MeetE a b w) := by
  have h1 := Lib.hid (Both_calls a b u v w hu hv)
  by_cases h : chk2 a b = 0
  · obtain ⟨ca, cb⟩ := chk2_zero h
    have h2 := Lib.hid (Solve_calls [(a, b)] _ _ (lit_prs1 (n := w.heap.size) rfl (r := (a, b)) 65 hu hv) (fun p hp => by simp at hp; subst hp; exact ⟨ca, cb⟩) (by simp))
    have hR : Hid (∀ s is er, SolveR (prT [(a, b)]) s is er → MeetR a b s is er) := fun s is er k => by rw [MeetR, if_pos h]; exact k
    have hh := Lib.hid h
    obtain ⟨ua, uc, rfl⟩ := hu.isSlice
    obtain ⟨va, vc, rfl⟩ := hv.isSlice
    clear hu hv h ca cb
    go_enter Try.func81, Try.ntmps81
    go_wp2_with fail
    refine h1.out.mono ?_
    rintro e w' ⟨rfl, rfl⟩
    rw [hh.out]
    go_wp2_with fail
    refine h2.out.mono ?_
    rintro e w1 ⟨s, is, er, x, rfl, hs, hx, hB⟩
    have hX := Lib.hid hx
    have hS := Lib.hid (hR.out _ _ _ hs)
    clear hx hs
    go_wp2_with fail
    go_ret3
    exact ⟨s, is, er, x, rfl, hS.out, hX.out.mono TermR.ok (.weak fun b hb => by have h1 : (w.alloc (.cells #[_, _] 65)).heap.size ≤ b := hb; simp at h1; show _ ≤ b; omega), ext_trans (below_alloc w _) hB⟩
  · have hR : Hid (MeetR a b [] false (chk2 a b)) := by rw [Hid, MeetR, if_neg h]; exact ⟨rfl, rfl, rfl⟩
    have h' : (chk2 a b != 0) = true := by simpa using h
    obtain ⟨ua, uc, rfl⟩ := hu.isSlice
    obtain ⟨va, vc, rfl⟩ := hv.isSlice
    clear hu hv h
    go_enter Try.func81, Try.ntmps81
    go_wp2_with fail
    refine h1.out.mono ?_
    rintro e w' ⟨rfl, rfl⟩
    clear h1
    go_wp2_with fail
    go_ret3
    exact ⟨[], false, _, .slice none 0 0, rfl, hR.out, ⟨by simp, .inl ⟨rfl, none, 0, rfl, fun _ => rfl⟩⟩, .refl _ _⟩

theorem Uall_many (a : Option Addr) (n c : Nat) (w : World) (h : 40 < n) : Calls Try.prog 152 #[.slice a n c] w fun e w' => e = .returned (.tuple #[.slice none 0 0, .bool false, .int .i64 2]) ∧ w = w' := by
  have h' : (40 : Int) < n := by omega
  go_enter Try.func152, Try.ntmps152
  go_wp2_with fail
  go_ret3
  exact ⟨rfl, rfl⟩

set_option maxRecDepth 100000 in
theorem Uall_ok (l : Rus) (v : Value) (w : World) (hv : IsRules Any w v l) (hr : ∀ p ∈ l, chk p.1 = 0 ∧ chk p.2 = 0) (hll : l.length ≤ 40) : Calls Try.prog 152 #[v] w (SolE (prT l) w) := by
  obtain ⟨va, vc, rfl⟩ := hv.isSlice
  have hll' : (l.length : Int) ≤ 40 := by omega
  have HV := Lib.hid hv
  have HR := Lib.hid hr
  clear hv hr
  go_enter Try.func152, Try.ntmps152
  go_wp2_with fail
  go_loopw [13] (fun s13 wr => ∃ k : Nat, k ≤ l.length ∧ s13 = .int .i64 k ∧ Hid (Below w.heap.size w wr)) (fun s13 _ => l.length - (intOf s13).toNat)
  case atStart => exact ⟨0, Nat.zero_le _, rfl, .refl _ _⟩
  case round =>
    rename World => wr
    obtain ⟨k, hk, rfl, hB⟩ := hrel
    by_cases hlk : k < l.length
    · have hkk : (k : Int) < l.length := by omega
      have hVr : IsRules Any wr (.slice va l.length vc) l := HV.out.below RuleR.ok hB.out
      obtain ⟨hlen, ⟨rfl, -⟩ | ⟨b, o, c, e, hlt, -, hc⟩⟩ := hVr.cells
      · simp at hlk
      · cases e
        obtain ⟨u, x, hu, hx, hiu, hix⟩ := hc k hlk
        obtain ⟨a1, c1, e1⟩ := hiu.isSlice
        obtain ⟨a2, c2, e2⟩ := hix.isSlice
        subst e1 e2
        obtain ⟨r1, r2⟩ := HR.out _ (nthR_mem hlk)
        have hb1 := below_alloc wr (.cells #[.slice a1 (nthR l k).1.length c1, .slice a2 (nthR l k).2.length c2] 65)
        have h1 := Lib.hid (Both_calls (nthR l k).1 (nthR l k).2 _ _ _ (hiu.below hb1) (hix.below hb1))
        have h0 : Hid (chk2 (nthR l k).1 (nthR l k).2 = 0) := by rw [Hid, chk2, if_pos r1, r2]
        have hB1 := Lib.hid (ext_trans hB.out hb1)
        clear hiu hix r1 r2 hb1 hc hlen
        go_wp2_with fail
        refine h1.out.mono ?_
        rintro e w' ⟨rfl, rfl⟩
        rw [h0.out]
        go_wp2_with fail
        go_roundw
        case rel => exact ⟨k + 1, by omega, by go_num, hB1.out⟩
        case measure => simp [intOf]; omega
    · obtain rfl : k = l.length := by omega
      have hS := Lib.hid (Solve_calls l _ wr (HV.out.below RuleR.ok hB.out) HR.out (by omega))
      go_wp2_with fail
      refine hS.out.mono ?_
      rintro e w1 ⟨s, is, er, u, rfl, h1, h2, h3⟩
      have H1 := Lib.hid h1
      have H2 := Lib.hid h2
      clear h1 h2
      go_wp2_with fail
      go_ret3
      exact ⟨s, is, er, u, rfl, H1.out, H2.out.mono TermR.ok (.weak fun b hb => Nat.le_trans hB.out.size hb), ext_trans hB.out h3⟩

end Go.Proofs.Ytepddehodmljeaa
