/- Walks: occurs and bind of unify. -/
import Derived.Test.YtepddehodmljeaaX1
namespace Go.Proofs.Ytepddehodmljeaa
open Go.RowKit Go.Maps

theorem wk_rank {β : Bn} {r : Int → Nat} (hr : Rnk r β) {x y : Tm} (k : Wk β x y) : y = x ∨ (x.sg < 0 ∧ ∀ u ∈ y.flat, u < 0 → r u < r x.sg) := by
  induction k with
  | stay h => exact .inl rfl
  | @go v t y hv hb _ ih =>
    right
    refine ⟨hv, fun u hu h0 => ?_⟩
    show r u < r v
    rcases ih with e | ⟨h1, h2⟩
    · rw [e] at hu; exact hr v t hb u hu h0
    · have h3 := h2 u hu h0
      have h4 := hr v t hb t.sg (by obtain ⟨r', e⟩ := sg_flat t; rw [e]; exact List.mem_cons_self ..) h1
      omega
theorem sg_mem (t : Tm) : t.sg ∈ t.flat := by obtain ⟨r', e⟩ := sg_flat t; rw [e]; exact List.mem_cons_self ..

/-- A variable, as far as it goes: what stands there, and whether v does. -/
theorem wk_var {β : Bn} {θ : Int → Tm} (hS : St β θ) {r : Int → Nat} (hr : Rnk r β) {s : Int} (h8 : -8 ≤ s) (hs : s < 0) : ∃ y, Wk β (.leaf s) y ∧ y.ok ∧ (∀ z ∈ y.flat, -8 ≤ z ∧ z < 6) ∧ y.size ≤ 30 ∧ y.inst θ = θ s ∧
    (y.sg < 0 → y = .leaf y.sg ∧ θ s = .leaf y.sg) ∧ (0 ≤ y.sg → ∀ u ∈ y.flat, u < 0 → r u < r s) := by
  obtain ⟨y, hy⟩ := exists_wk hS (x := .leaf s) (by show ar s = 0; rw [ar_neg hs])
  obtain ⟨h1, h2, h3, h4, h5, -⟩ := hy.facts hS (by show ar s = 0; rw [ar_neg hs]) (fun z hz => by simp [Tm.flat] at hz; omega) (by simp [Tm.size])
  have e : (Tm.leaf s).inst θ = θ s := if_pos hs
  rw [e] at h4
  refine ⟨y, hy, h1, h2, h3, h4, fun h0 => ⟨(h5 h0).1, ?_⟩, fun h0 => ?_⟩
  · rw [← h4, (h5 h0).1]
    have e2 : (Tm.leaf y.sg).inst θ = θ y.sg := if_pos h0
    rw [e2, hS.res.free _ (h5 h0).2]; rfl
  · rcases wk_rank hr hy with e | ⟨-, h6⟩
    · rw [e] at h0; have h0' : 0 ≤ s := h0; omega
    · exact h6

set_option maxRecDepth 100000 in
set_option maxHeartbeats 4000000 in
theorem occurs_calls {B : Nat} {β : Bn} {θ : Int → Tm} (hS : St β θ) {r : Int → Nat} (hr : Rnk r β) {v : Int} (hv0 : v < 0) : ∀ (n : Nat) (t : Tm) (u : Value) (w : World), t.ok → (∀ s ∈ t.flat, -8 ≤ s ∧ s < 6) → t.size ≤ 30 → (∀ s ∈ t.flat, s < 0 → r s < n) →
    BnIs B w β → IsInts (fun b => b ≠ B) w u t.flat →
    Calls Try.prog 216 #[.pointer (some ⟨B, 0, none⟩), .int .i64 v, u] w fun e w' => e = .returned (.bool (decide (v ∈ (t.inst θ).flat))) ∧ Below w.heap.size w w'
  | n, t, u, w, ht, hs, hl, hn, hB, hu => by
    obtain ⟨ub, uo, uc, rfl⟩ := hu.cells (flat_ne t)
    have HT := Lib.hid (And.intro ht (And.intro hs hn))
    have HB := Lib.hid hB
    have HU := Lib.hid hu
    have HS := Lib.hid hS
    have HR := Lib.hid hr
    have hLN : (t.flat.length : Int) ≤ 30 := by rw [size_flat]; omega
    have hfin : Hid (∀ b, (v ∈ (t.inst θ).flat ↔ b = true) → decide (v ∈ (t.inst θ).flat) = b) := fun b h => by
      cases b with
      | true => exact decide_eq_true (h.2 rfl)
      | false => exact decide_eq_false fun k => by have := h.1 k; cases this
    have hmem : Hid (v ∈ (t.inst θ).flat ↔ ∃ s, s < 0 ∧ s ∈ t.flat ∧ v ∈ (θ s).flat) := mem_inst hv0 ht
    have hrec : Hid (∀ m, m < n → ∀ (y : Tm) (u : Value) (w : World), y.ok → (∀ s ∈ y.flat, -8 ≤ s ∧ s < 6) → y.size ≤ 30 → (∀ s ∈ y.flat, s < 0 → r s < m) → BnIs B w β → IsInts (fun b => b ≠ B) w u y.flat →
        Calls Try.prog 216 #[.pointer (some ⟨B, 0, none⟩), .int .i64 v, u] w fun e w' => e = .returned (.bool (decide (v ∈ (y.inst θ).flat))) ∧ Below w.heap.size w w') := fun m hm y u w => occurs_calls hS hr hv0 m y u w
    clear ht hs hl hn hB hu hS hr
    go_enter Try.func216, Try.ntmps216
    go_wp2_with fail
    go_loopw [12] (fun s wr => ∃ k : Nat, k ≤ t.flat.length ∧ s = .int .i64 k ∧ Hid (Below w.heap.size w wr) ∧ Hid (∀ j, j < k → nth t.flat j < 0 → v ∉ (θ (nth t.flat j)).flat)) (fun s _ => t.flat.length - (intOf s).toNat)
    case atStart => exact ⟨0, Nat.zero_le _, rfl, .refl _ _, fun _ h => by omega⟩
    case round =>
      rename World => wr
      obtain ⟨k, hk, rfl, hBw, hno⟩ := hrel
      by_cases hlk : k < t.flat.length
      · have hkk : (k : Int) < t.flat.length := by omega
        have hk30 : (k : Int) ≤ 30 := by omega
        have hc := (HU.out.mono (.of_below hBw.out)).cell hlk
        have hmk := nth_mem hlk
        by_cases h0 : 0 ≤ nth t.flat k
        · have hnk : Hid (nth t.flat k < 0 → v ∉ (θ (nth t.flat k)).flat) := fun h => by omega
          go_wp2_with fail
          go_roundw
          case rel =>
            refine ⟨k + 1, by omega, by go_num, hBw.out, fun j hj h => ?_⟩
            by_cases e : j = k
            · subst e; exact hnk.out h
            · exact hno.out j (by omega) h
          case measure => simp [intOf]; omega
        · have h0' : nth t.flat k < 0 := by omega
          obtain ⟨y, hy, hyo, hys, hyl, hyi, hyv, hyr⟩ := wk_var HS.out HR.out (HT.out.2.1 _ hmk).1 h0'
          have HY := Lib.hid (And.intro hyo (And.intro hys (And.intro hyl (And.intro hyv hyr))))
          have hw2 : Hid (BnIs B (wr.alloc (.cells #[.int .i64 (nth t.flat k)] 3)) β) := (HB.out.keep hBw.out).keep (below_alloc _ _)
          have hwk := Lib.hid (walk_calls HS.out hy (HT.out.2.1 _ hmk).1 hw2.out (v := .slice (some ⟨wr.heap.size, 0, none⟩) 1 1) ((ints_lit wr wr.heap.size [nth t.flat k] 3 (Nat.le_refl _) (by simp)).mono (.weak fun b hb e => by have h1 : wr.heap.size ≤ b := hb; have := (HB.out.keep hBw.out).lt; omega)))
          have hsub := Lib.hid hyi
          have hmk' := Lib.hid hmk
          clear hyo hys hyl hyv hyr hy hyi hmk
          go_wp2_with fail
          refine hwk.out.mono ?_
          rintro e w2 ⟨u2, n2, rfl, hu2, rfl⟩
          have hB3 := Lib.hid (ext_trans hBw.out (ext_trans (below_alloc wr (.cells #[.int .i64 (nth t.flat k)] 3)) (below_drewN _ _ n2)))
          have hbn := Lib.hid (HB.out.keep hB3.out)
          generalize (wr.alloc (.cells #[.int .i64 (nth t.flat k)] 3)).drewN n2 = w2 at *
          obtain ⟨yb, yo, yc, rfl⟩ := hu2.cells (flat_ne y)
          have hc2 := hu2.cell (j := 0) (List.length_pos_iff.2 (flat_ne y))
          rw [flat_nth0, Nat.add_zero] at hc2
          have hmp : 0 < y.flat.length := List.length_pos_iff.2 (flat_ne y)
          have HU2 := Lib.hid hu2
          clear hu2 hc hwk hw2
          have hyes : Hid (v ∈ (θ (nth t.flat k)).flat → decide (v ∈ (t.inst θ).flat) = true) := fun h => decide_eq_true (hmem.out.2 ⟨_, h0', hmk'.out, h⟩)
          have hnext : Hid (v ∉ (θ (nth t.flat k)).flat → ∀ j, j < k + 1 → nth t.flat j < 0 → v ∉ (θ (nth t.flat j)).flat) := fun hv j hj h => by
            by_cases e : j = k
            · subst e; exact hv
            · exact hno.out j (by omega) h
          by_cases hyv : y.sg < 0
          · have hys := HY.out.2.2.2.1 hyv
            by_cases hev : y.sg = v
            · have hin : Hid (v ∈ (θ (nth t.flat k)).flat) := by rw [Hid, hys.2, hev]; simp [Tm.flat]
              have hbe : (y.sg == v) = true := by simpa using hev
              clear hev
              generalize y.flat.length = M at *
              generalize y.sg = z at *
              go_wp2_with fail
              go_ret
              exact ⟨congrArg (fun c => Ending.returned (.bool c)) (hyes.out hin.out).symm, hB3.out⟩
            · have hin : Hid (v ∉ (θ (nth t.flat k)).flat) := by rw [Hid, hys.2]; simp [Tm.flat]; exact fun e => hev e.symm
              have hbe : (y.sg == v) = false := by simpa using hev
              have hge : decide (y.sg ≥ 0) = false := decide_eq_false (by omega)
              clear hev
              generalize y.flat.length = M at *
              generalize y.sg = z at *
              go_wp2_with fail
              go_roundw
              case rel => exact ⟨k + 1, by omega, by go_num, hB3.out, hnext.out hin.out⟩
              case measure => simp [intOf]; omega
          · have hbe : (y.sg == v) = false := by simp; omega
            have hge : decide (y.sg ≥ 0) = true := decide_eq_true (by omega)
            have hvv : 0 ≤ y.sg := by omega
            have hrk := HY.out.2.2.2.2 (by omega)
            have hcall := Lib.hid (hrec.out (r (nth t.flat k)) (HT.out.2.2 _ hmk'.out h0') y _ w2 HY.out.1 HY.out.2.1 HY.out.2.2.1 hrk hbn.out HU2.out)
            rw [hsub.out] at hcall
            clear hrk hyv
            generalize y.flat.length = M at *
            generalize y.sg = z at *
            cases hg : decide (v ∈ (θ (nth t.flat k)).flat)
            · rw [hg] at hcall
              have hin := Lib.hid (of_decide_eq_false hg)
              clear hg
              go_wp2_with (go_at_call 216; refine hcall.out.mono ?_; rintro e w3 ⟨rfl, hB4⟩)
              go_roundw
              case rel => exact ⟨k + 1, by omega, by go_num, ext_trans hB3.out hB4, hnext.out hin.out⟩
              case measure => simp [intOf]; omega
            · rw [hg] at hcall
              have hin := Lib.hid (of_decide_eq_true hg)
              clear hg
              go_wp2_with (go_at_call 216; refine hcall.out.mono ?_; rintro e w3 ⟨rfl, hB4⟩)
              go_ret
              exact ⟨congrArg (fun c => Ending.returned (.bool c)) (hyes.out hin.out).symm, ext_trans hB3.out hB4⟩
      · obtain rfl : k = t.flat.length := by omega
        go_wp2_with fail
        go_ret
        refine ⟨congrArg (fun c => Ending.returned (.bool c)) (hfin.out false ?_).symm, hBw.out⟩
        rw [hmem.out]
        refine ⟨?_, fun e => by cases e⟩
        rintro ⟨s, h1, h2, h3⟩
        obtain ⟨j, hj, rfl⟩ := List.getElem_of_mem h2
        exact absurd h3 (by rw [← nth_eq hj]; exact hno.out j hj (by rw [nth_eq hj]; exact h1))
termination_by n => n

end Go.Proofs.Ytepddehodmljeaa
