/- Walks: Read. -/
import Derived.Test.YtepddehodmljeaaI4
namespace Go.Proofs.Ytepddehodmljeaa
open Go.RowKit

/-- What Read answers. -/
def reE (s : List UInt8) : Int := if 4096 < s.length then 2 else if fromB s = true then 0 else 1
def reL (s : List UInt8) : List Int := if 4096 < s.length then [] else fromL s
def ReE (s : List UInt8) (w : World) (e : Ending) (w' : World) : Prop :=
  ∃ u, e = .returned (.tuple #[u, .int .i64 (reE s)]) ∧ IsInts (Fr w.heap.size) w' u (reL s) ∧ Below w.heap.size w w'
theorem re_yes {s : List UInt8} {t : List Int} (hl : s.length ≤ 4096) (h : rd 31 s [] = some ([], t)) : reE s = 0 ∧ reL s = t := by
  obtain ⟨h1, h2, h3⟩ := (rd_iff (f := 31) (by omega)).1 h
  have e : chk (s.filterMap sgnOf) = 0 ∧ (tmOf (s.filterMap sgnOf)).txt = s := by rw [h1]; exact ⟨h2, h3⟩
  refine ⟨?_, ?_⟩
  · rw [reE, if_neg (by omega), fromB, decide_eq_true e, if_pos rfl]
  · rw [reL, if_neg (by omega), fromL, if_pos e, h1]
theorem re_no {s : List UInt8} (hl : s.length ≤ 4096) (h : ∀ t, rd 31 s [] ≠ some ([], t)) : reE s = 1 ∧ reL s = [] := by
  have e : ¬ (chk (s.filterMap sgnOf) = 0 ∧ (tmOf (s.filterMap sgnOf)).txt = s) := fun ⟨h1, h2⟩ => h _ ((rd_iff (f := 31) (by omega)).2 ⟨rfl, h1, h2⟩)
  refine ⟨?_, ?_⟩
  · rw [reE, if_neg (by omega), fromB, decide_eq_false e, if_neg (by decide)]
  · rw [reL, if_neg (by omega), fromL, if_neg e]

/-- The memory of Read: the results' boxes. -/
structure ReSt (w W : World) (a : Value) (c : Int) : Prop where
  bel : Below w.heap.size w W
  size : w.heap.size + 2 ≤ W.heap.size
  c2 : W.cell? ⟨w.heap.size, 0, none⟩ = some a
  c3 : W.cell? ⟨w.heap.size + 1, 0, none⟩ = some (.int .i64 c)
  f2 : W.frozen? ⟨w.heap.size, 0, none⟩ = false
  f3 : W.frozen? ⟨w.heap.size + 1, 0, none⟩ = false
theorem ReSt.keep {w W W' : World} {a : Value} {c : Int} (h : ReSt w W a c) (hk : Below (w.heap.size + 2) W W') : ReSt w W' a c := by
  have hz := h.size
  have hc : ∀ k, k < w.heap.size + 2 → W'.heap[k]? = W.heap[k]? := hk.block
  have cell : ∀ k v, k < w.heap.size + 2 → W.cell? ⟨k, 0, none⟩ = v → W'.cell? ⟨k, 0, none⟩ = v := fun k v h1 h2 => (World.cell?_of_block (w := W) (a := ⟨k, 0, none⟩) (hc k h1)).trans h2
  have frz : ∀ k v, k < w.heap.size + 2 → W.frozen? ⟨k, 0, none⟩ = v → W'.frozen? ⟨k, 0, none⟩ = v := fun k v h1 h2 => (World.frozen?_of_block (w := W) (a := ⟨k, 0, none⟩) (hc k h1)).trans h2
  exact ⟨h.bel.trans (hk.mono (by omega)), Nat.le_trans hz hk.size, cell _ _ (by omega) h.c2, cell _ _ (by omega) h.c3, frz _ _ (by omega) h.f2, frz _ _ (by omega) h.f3⟩
theorem ReSt.put {w W : World} {a0 a : Value} {c0 c : Int} (h : ReSt w W a0 c0) :
    ReSt w ((W.setCell ⟨w.heap.size, 0, none⟩ a).setCell ⟨w.heap.size + 1, 0, none⟩ (.int .i64 c)) a c := by
  have n1 : (⟨w.heap.size, 0, none⟩ : Addr) ≠ ⟨w.heap.size + 1, 0, none⟩ := fun e => by injection e with e; omega
  have k2 : (W.setCell ⟨w.heap.size, 0, none⟩ a).cell? ⟨w.heap.size, 0, none⟩ = some a := World.cell?_setCell_same' _ _ _ (by rw [h.c2]; rfl)
  have k3 : (W.setCell ⟨w.heap.size, 0, none⟩ a).cell? ⟨w.heap.size + 1, 0, none⟩ = some (.int .i64 c0) := (World.cell?_setCell_other _ _ _ _ n1).trans h.c3
  refine ⟨(h.bel.setCell (by simp) _).setCell (by simp) _, by simpa using h.size, (World.cell?_setCell_other _ _ _ _ (Ne.symm n1)).trans k2, World.cell?_setCell_same' _ _ _ (by rw [k3]; rfl), ?_, ?_⟩
  · simp [go_sem, h.f2]
  · simp [go_sem, h.f3]

/-- What the deferred call does: it catches what is thrown. -/
def caughtR (w : World) (p q : Nat) : World := (w.setCell ⟨p, 0, none⟩ (.slice none 0 0)).setCell ⟨q, 0, none⟩ (.int .i64 1)
theorem catch_broke (p q : Nat) (w : World) (xp xq : Value) (hpq : p ≠ q) (hp : w.cell? ⟨p, 0, none⟩ = some xp) (hq : w.cell? ⟨q, 0, none⟩ = some xq)
    (fp : w.frozen? ⟨p, 0, none⟩ = false) (fq : w.frozen? ⟨q, 0, none⟩ = false) :
    CallsD Try.prog 148 #[.pointer (some ⟨p, 0, none⟩), .pointer (some ⟨q, 0, none⟩)] (.panicking broke) w fun e u' w' =>
      e = .returned (.tuple #[]) ∧ u' = .panicking [{ v := .iface 161 (.agg #[]), recovered := true }] ∧ w' = caughtR w p q := by
  have n1 : (⟨p, 0, none⟩ : Addr) ≠ ⟨q, 0, none⟩ := fun e => hpq (by cases e; rfl)
  have c2 : (w.setCell ⟨p, 0, none⟩ (.slice none 0 0)).cell? ⟨q, 0, none⟩ = some xq := (World.cell?_setCell_other _ _ _ _ n1).trans hq
  have f2 : (w.setCell ⟨p, 0, none⟩ (.slice none 0 0)).frozen? ⟨q, 0, none⟩ = false := by simp [go_sem, fq]
  refine callsD_of_wpS Try.func148 rfl fun c₀ cs hu => ?_
  apply wpS_seq
  apply wpS_region
  simp [wpOpsS, go_sem, recoverD, hu, broke, Try.ntmps148, Exit.thenS, Array.replicate_succ]
  refine wpS_of_wp ?_
  go_wp2_with fail
  simp [bodyPostS, results, Try.f148, caughtR]
theorem idle_broke (p q : Addr) (w : World) :
    CallsD Try.prog 148 #[.pointer (some p), .pointer (some q)] .returning w fun e u' w' => e = .returned (.tuple #[]) ∧ u' = .returning ∧ w' = w := by
  refine callsD_of_wpS Try.func148 rfl fun c₀ cs hu => ?_
  apply wpS_seq
  apply wpS_region
  simp [wpOpsS, go_sem, recoverD, hu, Try.ntmps148, Exit.thenS, Array.replicate_succ]
  refine wpS_of_wp ?_
  go_wp2_with fail
  cases c₀
  simp_all [bodyPostS, results, Try.f148]

def dfsR (b : Nat) : List Deferred := [{ target := .fn (.func 148) #[.pointer (some ⟨b, 0, none⟩), .pointer (some ⟨b + 1, 0, none⟩)], args := #[] }]
theorem leaves_broke {w W : World} {s : List UInt8} {a0 : Value} {c0 : Int} (h : ReSt w W a0 c0) (h1 : reE s = 1 ∧ reL s = []) (a : Act) (hd : a.defers = dfsR w.heap.size)
    (t2 : a.tmps.getD 2 undef = .pointer (some ⟨w.heap.size, 0, none⟩)) (t3 : a.tmps.getD 3 undef = .pointer (some ⟨w.heap.size + 1, 0, none⟩)) :
    bodyPostD Try.prog Try.f78 (ReE s w) (.panic broke) a W := by
  show Leaves Try.prog Try.f78 a.tmps (ReE s w) a.defers (.panicking broke) W
  rw [hd]
  refine ⟨by simp, .func 148, #[.pointer (some ⟨w.heap.size, 0, none⟩), .pointer (some ⟨w.heap.size + 1, 0, none⟩)], 148, #[.pointer (some ⟨w.heap.size, 0, none⟩), .pointer (some ⟨w.heap.size + 1, 0, none⟩)], rfl, by kernel_rfl, ?_⟩
  refine (catch_broke w.heap.size (w.heap.size + 1) W _ _ (by omega) h.c2 h.c3 h.f2 h.f3).mono ?_
  rintro e u' w2 ⟨rfl, rfl, rfl⟩
  have hS2 := h.put (a := .slice none 0 0) (c := 1)
  have q2 := hS2.c2
  have q3 := hS2.c3
  refine ⟨.tuple #[.slice none 0 0, .int .i64 1], ?_, .slice none 0 0, by rw [h1.1], by rw [h1.2]; exact .nil _ _, hS2.bel⟩
  rw [Array.getD_eq_getD_getElem?] at t2 t3
  simp [results, Try.f78, go_sem, t2, t3, caughtR, q2, q3]
theorem leaves_read {w W : World} {s : List UInt8} {t : List Int} {a0 v : Value} {c0 : Int} (h : ReSt w W a0 c0) (h1 : reE s = 0 ∧ reL s = t) (hv : IsInts (Fr (w.heap.size + 2)) W v t) (a : Act) (hd : a.defers = dfsR w.heap.size)
    (t2 : a.tmps.getD 2 undef = .pointer (some ⟨w.heap.size, 0, none⟩)) (t3 : a.tmps.getD 3 undef = .pointer (some ⟨w.heap.size + 1, 0, none⟩)) :
    bodyPostD Try.prog Try.f78 (ReE s w) .ret a ((W.setCell ⟨w.heap.size, 0, none⟩ v).setCell ⟨w.heap.size + 1, 0, none⟩ (.int .i64 0)) := by
  show Leaves Try.prog Try.f78 a.tmps (ReE s w) a.defers .returning _
  rw [hd]
  refine ⟨by simp, .func 148, #[.pointer (some ⟨w.heap.size, 0, none⟩), .pointer (some ⟨w.heap.size + 1, 0, none⟩)], 148, #[.pointer (some ⟨w.heap.size, 0, none⟩), .pointer (some ⟨w.heap.size + 1, 0, none⟩)], rfl, by kernel_rfl, ?_⟩
  refine (idle_broke _ _ _).mono ?_
  rintro e u' w2 ⟨rfl, rfl, rfl⟩
  have hS2 := h.put (a := v) (c := 0)
  have q2 := hS2.c2
  have q3 := hS2.c3
  have hv2 : IsInts (Fr w.heap.size) ((W.setCell ⟨w.heap.size, 0, none⟩ v).setCell ⟨w.heap.size + 1, 0, none⟩ (.int .i64 0)) v t := hv.mono ⟨by simp, fun b hb hl => by
    have hb' : w.heap.size + 2 ≤ b := hb
    refine ⟨by show w.heap.size ≤ b; omega, ?_⟩
    rw [Below.heap_setCell _ _ _ _ (by simp; omega), Below.heap_setCell _ _ _ _ (by simp; omega)]⟩
  refine ⟨.tuple #[v, .int .i64 0], ?_, v, by rw [h1.1], by rw [h1.2]; exact hv2, hS2.bel⟩
  rw [Array.getD_eq_getD_getElem?] at t2 t3
  simp [results, Try.f78, go_sem, t2, t3, q2, q3]

set_option maxRecDepth 100000 in
set_option maxHeartbeats 2000000 in
theorem Read_calls (s : List UInt8) (w : World) : Calls Try.prog 78 #[.string ⟨s.toArray⟩] w (ReE s w) := by
  have hmf : ∀ (fn : Fn) (first cap : Array Value) (w : World), (Instr.makeFunc fn first cap).run Try.prog w = .ok (.func fn first cap) w := fun _ _ _ _ => rfl
  have hsz := size_bytes s
  obtain ⟨W0, hW0⟩ : ∃ W0, W0 = (w.alloc (.cells #[.slice none 0 0] 24)).alloc (.cells #[.int .i64 0] 25) := ⟨_, rfl⟩
  have hB0 : Below w.heap.size w W0 := by rw [hW0]; exact ext_alloc (below_alloc _ _) _
  have hz0 : W0.heap.size = w.heap.size + 2 := by rw [hW0]; simp
  have hS0 : ReSt w W0 (.slice none 0 0) 0 := by
    refine ⟨hB0, ?_, ?_, ?_, ?_, ?_⟩ <;> (rw [hW0]; simp [go_sem])
  by_cases hl : 4096 < s.length
  · have hE : reE s = 2 ∧ reL s = [] := ⟨if_pos hl, if_pos hl⟩
    have hli : (4096 : Int) < s.length := by omega
    have HE := Lib.hid hE
    have HS : Hid (ReSt w ((w.alloc (.cells #[.slice none 0 0] 24)).alloc (.cells #[.int .i64 2] 25)) (.slice none 0 0) 2) := by
      refine ⟨ext_alloc (below_alloc _ _) _, ?_, ?_, ?_, ?_, ?_⟩ <;> simp [go_sem]
    clear hB0 hE hz0 hS0 hW0
    go_enter_defers Try.func78, Try.ntmps78
    go_wp2_with fail
    have q2 := HS.out.c2
    have q3 := HS.out.c3
    refine ⟨.tuple #[.slice none 0 0, .int .i64 2], ?_, .slice none 0 0, by rw [HE.out.1], by rw [HE.out.2]; exact .nil _ _, HS.out.bel⟩
    simp [results, Try.f78, go_sem, q2, q3]
  · have hli : ¬ (4096 : Int) < s.length := by omega
    have HL : Hid (s.length ≤ 4096) := by rw [Hid]; omega
    obtain ⟨W1, hW1⟩ : ∃ W1, W1 = W0.alloc (.cells #[.string ⟨s.toArray⟩, .slice none 0 0] 159) := ⟨_, rfl⟩
    have hb1 : Below W0.heap.size W0 W1 := by rw [hW1]; exact below_alloc _ _
    have HS := Lib.hid (hS0.keep (hb1.mono (by omega)))
    have hR : RdS (w.heap.size + 1 + 1) W1 s [] := by
      refine ⟨by rw [hW1]; simp; omega, by rw [hW1, World.cell?_alloc_at _ _ _ _ (show w.heap.size + 1 + 1 = W0.heap.size from hz0.symm)]; rfl, ⟨.slice none 0 0, by rw [hW1, World.cell?_alloc_at _ _ _ _ (show w.heap.size + 1 + 1 = W0.heap.size from hz0.symm)]; rfl, World.ownsRow_nil _ _ _ _⟩, ?_, ?_⟩
      all_goals rw [hW1]; simp [go_sem, hz0]
    have hT := Lib.hid (term_calls (w.heap.size + 1 + 1) 31 s [] W1 (by simp) (by simp) HL.out hR)
    rw [hW0] at hW1
    clear hB0 hz0 hS0 hl hR hb1
    clear hW0
    go_enter_defers Try.func78, Try.ntmps78
    go_wp2_with fail
    rw [← hW1]
    clear hW1
    refine hT.out.mono ?_
    rintro e w5 ⟨hb5, hm⟩
    have HS5 := Lib.hid (HS.out.keep hb5)
    clear HS hT
    cases hrd : rd 31 s [] with
    | none =>
      rw [hrd] at hm
      cases hm
      exact leaves_broke HS5.out (re_no HL.out fun t h => by rw [hrd] at h; cases h) _ rfl rfl rfl
    | some p =>
      obtain ⟨r, t⟩ := p
      rw [hrd] at hm
      obtain ⟨rfl, hR5⟩ := hm
      have hc0 := hR5.c0
      cases r with
      | cons x r =>
        have HN := Lib.hid (re_no HL.out fun t h => by rw [hrd] at h; cases h)
        have hne : (({ data := (x :: r).toArray } : ByteArray).toList == ({ data := #[] } : ByteArray).toList) = false := by
          rw [show (#[] : Array UInt8) = ([] : List UInt8).toArray from rfl, str_ne]; rfl
        clear hb5 hrd hR5
        go_wp2_with fail
        exact leaves_broke HS5.out HN.out _ rfl rfl rfl
      | nil =>
        have HY := Lib.hid (re_yes HL.out hrd)
        obtain ⟨sv, hcell, hown, sa, sc, hsv⟩ := hR5.app
        have HV : Hid (IsInts (Fr (w.heap.size + 2)) w5 sv t) := by
          have hl : t.length ≤ 30 := (rd_len (by simp) hrd).2.1
          exact (ints_of_own (xs := t) hown (by omega)).mono (.weak fun b hb => by have : w.heap.size + 1 + 1 + 1 ≤ b := hb; show w.heap.size + 2 ≤ b; omega)
        subst hsv
        obtain ⟨-, -, g2, g3, f2, f3⟩ := HS5.out
        clear hb5 hrd hR5 hown
        go_wp2_with fail
        exact leaves_read HS5.out HY.out HV.out _ rfl rfl rfl

end Go.Proofs.Ytepddehodmljeaa
