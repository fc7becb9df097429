/- Walks: Meet, All of unify; unifyBegun. -/
import Derived.Test.YtepddehodmljeaaX7
import Derived.Test.YtepddehodmljeaaF3
namespace Go.Proofs.Ytepddehodmljeaa
open Go.RowKit Go.Maps

theorem lit_prs1 {w : World} {n : Nat} (hn : n = w.heap.size) {u v : Value} {r : List Int × List Int} (ty : TypeId) (hu : IsInts Any w u r.1) (hv : IsInts Any w v r.2) :
    IsRules Any (w.alloc (.cells #[u, v] ty)) (.slice (some ⟨n, 0, none⟩) 1 1) [r] := by
  subst hn
  have hb := below_alloc w (.cells #[u, v] ty)
  refine ⟨by simp, .inr ⟨by simp, w.heap.size, 0, 1, rfl, by simp, trivial, by simp, [u, v], ⟨[u, v], [], rfl, rfl, ⟨u, v, rfl, hu.below hb, hv.below hb⟩, rfl⟩, fun j x hj => ?_⟩⟩
  rw [World.cell?_alloc_at _ _ _ _ rfl, Nat.zero_add]
  simpa using hj
theorem lit_prs2 {w : World} {n : Nat} (hn : n = w.heap.size) {u v u' v' : Value} {r r' : List Int × List Int} (ty : TypeId) (hu : IsInts Any w u r.1) (hv : IsInts Any w v r.2) (hu' : IsInts Any w u' r'.1) (hv' : IsInts Any w v' r'.2) :
    IsRules Any (w.alloc (.cells #[u, v, u', v'] ty)) (.slice (some ⟨n, 0, none⟩) 2 2) [r, r'] := by
  subst hn
  have hb := below_alloc w (.cells #[u, v, u', v'] ty)
  refine ⟨by simp, .inr ⟨by simp, w.heap.size, 0, 2, rfl, by simp, trivial, by simp, [u, v, u', v'], ⟨[u, v], [u', v'], rfl, rfl, ⟨u, v, rfl, hu.below hb, hv.below hb⟩, [u', v'], [], rfl, rfl, ⟨u', v', rfl, hu'.below hb, hv'.below hb⟩, rfl⟩, fun j x hj => ?_⟩⟩
  rw [World.cell?_alloc_at _ _ _ _ rfl, Nat.zero_add]
  simpa using hj

def MeetE (a b : List Int) (w : World) (e : Ending) (w' : World) : Prop :=
  ∃ s is er x, e = .returned (.tuple #[x, .bool is, .int .i64 er]) ∧ MeetR a b s is er ∧ IsTerms (Fr w.heap.size) w' x s ∧ Below w.heap.size w w'

set_option maxRecDepth 100000 in
theorem Meet_calls (a b : List Int) (u v : Value) (w : World) (hu : IsInts Any w u a) (hv : IsInts Any w v b) : Calls Try.prog 81 #[u, v] w (MeetE a b w) := by
  have h1 := Lib.hid (Both_calls a b u v w hu hv)
  by_cases h : chk2 a b = 0
  · obtain ⟨ca, cb⟩ := chk2_zero h
    have h2 := Lib.hid (Solve_calls [(a, b)] _ _ (lit_prs1 (n := w.heap.size) rfl (r := (a, b)) 65 hu hv) (fun p hp => by simp at hp; subst hp; exact ⟨ca, cb⟩) (by simp))
    have hR : Hid (∀ s is er, SolveR (prT [(a, b)]) s is er → MeetR a b s is er) := fun s is er k => by rw [MeetR, if_pos h]; exact k
    have hh := Lib.hid h
    obtain ⟨ua, uc, rfl⟩ := hu.isSlice
    obtain ⟨va, vc, rfl⟩ := hv.isSlice
    clear hu hv h ca cb
    go_enter Try.func81, Try.ntmps81
    go_wp2_with fail
    refine h1.out.mono ?_
    rintro e w' ⟨rfl, rfl⟩
    rw [hh.out]
    go_wp2_with fail
    refine h2.out.mono ?_
    rintro e w1 ⟨s, is, er, x, rfl, hs, hx, hB⟩
    have hX := Lib.hid hx
    have hS := Lib.hid (hR.out _ _ _ hs)
    clear hx hs
    go_wp2_with fail
    go_ret3
    exact ⟨s, is, er, x, rfl, hS.out, hX.out.mono TermR.ok (.weak fun b hb => by have h1 : (w.alloc (.cells #[_, _] 65)).heap.size ≤ b := hb; simp at h1; show _ ≤ b; omega), ext_trans (below_alloc w _) hB⟩
  · have hR : Hid (MeetR a b [] false (chk2 a b)) := by rw [Hid, MeetR, if_neg h]; exact ⟨rfl, rfl, rfl⟩
    have h' : (chk2 a b != 0) = true := by simpa using h
    obtain ⟨ua, uc, rfl⟩ := hu.isSlice
    obtain ⟨va, vc, rfl⟩ := hv.isSlice
    clear hu hv h
    go_enter Try.func81, Try.ntmps81
    go_wp2_with fail
    refine h1.out.mono ?_
    rintro e w' ⟨rfl, rfl⟩
    clear h1
    go_wp2_with fail
    go_ret3
    exact ⟨[], false, _, .slice none 0 0, rfl, hR.out, ⟨by simp, .inl ⟨rfl, none, 0, rfl, fun _ => rfl⟩⟩, .refl _ _⟩

theorem Uall_many (a : Option Addr) (n c : Nat) (w : World) (h : 40 < n) : Calls Try.prog 152 #[.slice a n c] w fun e w' => e = .returned (.tuple #[.slice none 0 0, .bool false, .int .i64 2]) ∧ w = w' := by
  have h' : (40 : Int) < n := by omega
  go_enter Try.func152, Try.ntmps152
  go_wp2_with fail
  go_ret3
  exact ⟨rfl, rfl⟩

set_option maxRecDepth 100000 in
theorem Uall_ok (l : Rus) (v : Value) (w : World) (hv : IsRules Any w v l) (hr : ∀ p ∈ l, chk p.1 = 0 ∧ chk p.2 = 0) (hll : l.length ≤ 40) : Calls Try.prog 152 #[v] w (SolE (prT l) w) := by
  obtain ⟨va, vc, rfl⟩ := hv.isSlice
  have hll' : (l.length : Int) ≤ 40 := by omega
  have HV := Lib.hid hv
  have HR := Lib.hid hr
  clear hv hr
  go_enter Try.func152, Try.ntmps152
  go_wp2_with fail
  go_loopw [13] (fun s13 wr => ∃ k : Nat, k ≤ l.length ∧ s13 = .int .i64 k ∧ Hid (Below w.heap.size w wr)) (fun s13 _ => l.length - (intOf s13).toNat)
  case atStart => exact ⟨0, Nat.zero_le _, rfl, .refl _ _⟩
  case round =>
    rename World => wr
    obtain ⟨k, hk, rfl, hB⟩ := hrel
    by_cases hlk : k < l.length
    · have hkk : (k : Int) < l.length := by omega
      have hVr : IsRules Any wr (.slice va l.length vc) l := HV.out.below RuleR.ok hB.out
      obtain ⟨hlen, ⟨rfl, -⟩ | ⟨b, o, c, e, hlt, -, hc⟩⟩ := hVr.cells
      · simp at hlk
      · cases e
        obtain ⟨u, x, hu, hx, hiu, hix⟩ := hc k hlk
        obtain ⟨a1, c1, e1⟩ := hiu.isSlice
        obtain ⟨a2, c2, e2⟩ := hix.isSlice
        subst e1 e2
        obtain ⟨r1, r2⟩ := HR.out _ (nthR_mem hlk)
        have hb1 := below_alloc wr (.cells #[.slice a1 (nthR l k).1.length c1, .slice a2 (nthR l k).2.length c2] 65)
        have h1 := Lib.hid (Both_calls (nthR l k).1 (nthR l k).2 _ _ _ (hiu.below hb1) (hix.below hb1))
        have h0 : Hid (chk2 (nthR l k).1 (nthR l k).2 = 0) := by rw [Hid, chk2, if_pos r1, r2]
        have hB1 := Lib.hid (ext_trans hB.out hb1)
        clear hiu hix r1 r2 hb1 hc hlen
        go_wp2_with fail
        refine h1.out.mono ?_
        rintro e w' ⟨rfl, rfl⟩
        rw [h0.out]
        go_wp2_with fail
        go_roundw
        case rel => exact ⟨k + 1, by omega, by go_num, hB1.out⟩
        case measure => simp [intOf]; omega
    · obtain rfl : k = l.length := by omega
      have hS := Lib.hid (Solve_calls l _ wr (HV.out.below RuleR.ok hB.out) HR.out (by omega))
      go_wp2_with fail
      refine hS.out.mono ?_
      rintro e w1 ⟨s, is, er, u, rfl, h1, h2, h3⟩
      have H1 := Lib.hid h1
      have H2 := Lib.hid h2
      clear h1 h2
      go_wp2_with fail
      go_ret3
      exact ⟨s, is, er, u, rfl, H1.out, H2.out.mono TermR.ok (.weak fun b hb => Nat.le_trans hB.out.size hb), ext_trans hB.out h3⟩

end Go.Proofs.Ytepddehodmljeaa
