/- Walks: slices.Clone, term.Part. -/
import Derived.Test.YtepddehodmljeaaPe
import Derived.Lib.SliceRun
namespace Go.Proofs.Ytepddehodmljeaa
open Go.RowKit Go.Maps

theorem small_of_signs {t : List Int} (h : Signs t) : Small t := fun x hx => by have := h x hx; omega

set_option maxRecDepth 100000 in
theorem Clone_calls (t : List Int) (v : Value) (w : World) (hne : t ≠ []) (htl : t.length ≤ 1000) (hv : IsInts Any w v t) :
    Calls Try.prog 116 #[v] w fun e w' => ∃ x, e = .returned x ∧ IsInts (Fr w.heap.size) w' x t ∧ Below w.heap.size w w' := by
  obtain ⟨i3, hi, hz, hsz, hby⟩ := info_parts Try.inf3
  have hv0 := Lib.hid hv
  obtain ⟨hlen, ⟨rfl, -⟩ | ⟨-, b, o, c, rfl, -, -, hlt, hc⟩⟩ := hv
  · exact absurd rfl hne
  clear hc
  have hO0 : Hid ((w.alloc (.cells #[] 3)).ownsRow w.heap.size 3 1 (.slice (some ⟨w.heap.size, 0, none⟩) 0 0) ([] : List Int).length (([] : List Int).map (Value.int .i64))) := World.ownsRow_made w #[] 0 (Nat.le_refl _) (by simp [maxLen]) (by simp)
  have hI0 : Hid (IsInts Any (w.alloc (.cells #[] 3)) (.slice (some ⟨b, o, none⟩) t.length c) t) := hv0.out.below (below_alloc _ _)
  have hnil : ∀ W, (binOp .eql 24 (.slice (some ⟨b, o, none⟩) t.length c) (.slice none 0 0)).run Try.prog W = .ok (.bool false) W := fun W => Lib.run_eql_slice_nil W _ _ _ _ _ _ _ Try.underlying24
  go_enter Try.func116, Try.ntmps116
  have tok1 : True := trivial
  go_wp2_with (at_builtin; have _t := tok1; refine app_ints _ _ 24 rfl rfl w.heap.size i3 Try.underlying24 hi hz hsz hby hO0.out hI0.out ?c1 ?c2 ?c3; rotate_left 2; intro v' w1 hown1 hb1 hg1 _; clear tok1; rw [List.nil_append] at hown1)
  case c1 => simp; omega
  case c2 => simp
  go_ret
  exact ⟨_, rfl, ints_of_own hown1 (by omega), (below_alloc w _).trans (hb1.mono (Nat.le_refl _))⟩

/-- What Part answers. -/
def partT (t : List Int) (k : Int) : List Int := if plc t k = 0 then paT t k.toNat else []
theorem plc_zero {t : List Int} {k : Int} (h : plc t k = 0) : chk t = 0 ∧ 0 ≤ k ∧ k < t.length := by
  unfold plc at h
  split at h
  · split at h
    · exact ⟨by assumption, by omega, by omega⟩
    · simp at h
  · contradiction

set_option maxRecDepth 100000 in
theorem Part_calls (t : List Int) (v : Value) (k : Int) (w : World) (hv : IsInts Any w v t) :
    Calls Try.prog 52 #[v, .int .i64 k] w fun e w' => ∃ x, e = .returned (.tuple #[x, .int .i64 (plc t k)]) ∧ IsInts (Fr w.heap.size) w' x (partT t k) ∧ Below w.heap.size w w' := by
  have h1 := Lib.hid (placed_calls t v k w hv)
  by_cases h : plc t k = 0
  · obtain ⟨h2, h3, h4⟩ := plc_zero h
    obtain ⟨n, rfl⟩ : ∃ n : Nat, k = n := ⟨k.toNat, by omega⟩
    have hp := part_at h2 (k := n) (by omega)
    have hA := Lib.hid (At_calls Any t (small_of_signs (signs_of_chk h2)) v n (enT t n) w hv hp.1 hp.2.1 hp.2.2.1)
    have hr : Hid (partT t n = paT t n) := by rw [Hid, partT, if_pos h, Int.toNat_natCast]
    have hne : Hid (paT t n ≠ []) := ne_of_chk (chk_paT h2 (by omega))
    have hle : Hid ((paT t n).length ≤ 1000) := by have := len_of_chk (chk_paT h2 (k := n) (by omega)); show _ ≤ _; omega
    have hh := Lib.hid h
    clear hv h h2 h3 h4 hp
    go_enter Try.func52, Try.ntmps52
    go_wp2_with fail
    refine h1.out.mono ?_
    rintro e w' ⟨rfl, rfl⟩
    rw [hh.out]
    go_wp2_with fail
    refine hA.out.mono ?_
    rintro e w' ⟨x, rfl, hx, rfl⟩
    go_wp2_with fail
    refine (Clone_calls (paT t n) x w hne.out hle.out hx).mono ?_
    rintro e w1 ⟨y, rfl, hy, hB⟩
    go_wp2_with fail
    go_ret2
    exact ⟨_, by rw [hh.out]; rfl, by rw [hr.out]; exact hy, hB⟩
  · have hr : Hid (partT t k = []) := by rw [Hid, partT, if_neg h]
    have h' : (plc t k != 0) = true := by simpa using h
    clear hv h
    go_enter Try.func52, Try.ntmps52
    go_wp2_with fail
    refine h1.out.mono ?_
    rintro e w' ⟨rfl, rfl⟩
    clear h1
    go_wp2_with fail
    go_ret2
    exact ⟨_, rfl, by rw [hr.out]; exact .nil _ _, .refl _ _⟩

end Go.Proofs.Ytepddehodmljeaa
