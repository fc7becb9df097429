/- Walks: Solve of unify: its deferred closure. -/
import Derived.Test.YtepddehodmljeaaX5
import Derived.Defers
import Derived.Recover
namespace Go.Proofs.Ytepddehodmljeaa
open Go.RowKit Go.Maps

theorem assert_large (w : World) : (Instr.typeAssert (.iface 212 (.agg #[])) 20 212 true).run Try.prog w = .ok (.tuple #[.agg #[], .bool true]) w := by kernel_rfl
theorem assert_nil (w : World) : (Instr.typeAssert .nilIface 20 212 true).run Try.prog w = .ok (.tuple #[.agg #[], .bool false]) w := by kernel_rfl

theorem below_cell {w w' : World} (hb : Below w.heap.size w w') {p : Addr} {v : Value} (h : w.cell? p = some v) : w'.cell? p = some v := (hb.cell (World.block_lt_of_cell? _ _ h)).trans h
theorem below_frozen {w w' : World} (hb : Below w.heap.size w w') {p : Addr} (hl : p.block < w.heap.size) (h : w.frozen? p = false) : w'.frozen? p = false := (World.frozen?_of_block (w := w) (hb.block _ hl)).trans h

/-- What the closure leaves behind a panic. -/
def caught (w : World) (p q s : Nat) : World := (((w.alloc (.cells #[] 212)).setCell ⟨p, 0, none⟩ (.slice none 0 0)).setCell ⟨q, 0, none⟩ (.bool false)).setCell ⟨s, 0, none⟩ (.int .i64 2)

set_option maxRecDepth 100000 in
set_option maxHeartbeats 2000000 in
theorem catch_thrown (p q s : Nat) (w : World) (xp xq xs : Value) (hpq : p ≠ q) (hps : p ≠ s) (hqs : q ≠ s) (hp : w.cell? ⟨p, 0, none⟩ = some xp) (hq : w.cell? ⟨q, 0, none⟩ = some xq) (hs : w.cell? ⟨s, 0, none⟩ = some xs)
    (fp : w.frozen? ⟨p, 0, none⟩ = false) (fq : w.frozen? ⟨q, 0, none⟩ = false) (fs : w.frozen? ⟨s, 0, none⟩ = false) :
    CallsD Try.prog 188 #[.pointer (some ⟨p, 0, none⟩), .pointer (some ⟨q, 0, none⟩), .pointer (some ⟨s, 0, none⟩)] (.panicking thrown) w fun e u' w' =>
      e = .returned (.tuple #[]) ∧ u' = .panicking [{ v := .iface 212 (.agg #[]), recovered := true }] ∧ w' = caught w p q s := by
  have hb := below_alloc w (.cells #[] 212)
  have c1 := below_cell hb hp
  have f1 := below_frozen hb (World.block_lt_of_cell? _ _ hp) fp
  have cq := below_cell hb hq
  have cs' := below_cell hb hs
  have fq' := below_frozen hb (World.block_lt_of_cell? _ _ hq) fq
  have fs' := below_frozen hb (World.block_lt_of_cell? _ _ hs) fs
  obtain ⟨w1, hw1⟩ : ∃ w1, w1 = w.alloc (.cells #[] 212) := ⟨_, rfl⟩
  rw [← hw1] at c1 f1 cq cs' fq' fs'
  have n1 : (⟨p, 0, none⟩ : Addr) ≠ ⟨q, 0, none⟩ := fun e => hpq (by cases e; rfl)
  have n2 : (⟨p, 0, none⟩ : Addr) ≠ ⟨s, 0, none⟩ := fun e => hps (by cases e; rfl)
  have n3 : (⟨q, 0, none⟩ : Addr) ≠ ⟨s, 0, none⟩ := fun e => hqs (by cases e; rfl)
  have c2 : (w1.setCell ⟨p, 0, none⟩ (.slice none 0 0)).cell? ⟨q, 0, none⟩ = some xq := (World.cell?_setCell_other _ _ _ _ n1).trans cq
  have f2 : (w1.setCell ⟨p, 0, none⟩ (.slice none 0 0)).frozen? ⟨q, 0, none⟩ = false := by simp [go_sem, fq']
  have c3 : ((w1.setCell ⟨p, 0, none⟩ (.slice none 0 0)).setCell ⟨q, 0, none⟩ (.bool false)).cell? ⟨s, 0, none⟩ = some xs := (World.cell?_setCell_other _ _ _ _ n3).trans ((World.cell?_setCell_other _ _ _ _ n2).trans cs')
  have f3 : ((w1.setCell ⟨p, 0, none⟩ (.slice none 0 0)).setCell ⟨q, 0, none⟩ (.bool false)).frozen? ⟨s, 0, none⟩ = false := by simp [go_sem, fs']
  refine callsD_of_wpS Try.func188 rfl fun c₀ cs hu => ?_
  apply wpS_seq
  apply wpS_region
  simp [wpOpsS, go_sem, recoverD, hu, thrown, Try.ntmps188, Exit.thenS, Array.replicate_succ]
  have h1 := assert_large
  rw [hw1] at c1 f1 c2 f2 c3 f3
  refine wpS_of_wp ?_
  go_wp2_with fail
  simp [bodyPostS, results, Try.f188, caught]

set_option maxRecDepth 100000 in
set_option maxHeartbeats 2000000 in
theorem catch_idle (p q s : Addr) (w : World) :
    CallsD Try.prog 188 #[.pointer (some p), .pointer (some q), .pointer (some s)] .returning w fun e u' w' => e = .returned (.tuple #[]) ∧ u' = .returning ∧ w' = w.alloc (.cells #[] 212) := by
  refine callsD_of_wpS Try.func188 rfl fun c₀ cs hu => ?_
  apply wpS_seq
  apply wpS_region
  simp [wpOpsS, go_sem, recoverD, hu, Try.ntmps188, Exit.thenS, Array.replicate_succ]
  have h2 := assert_nil
  refine wpS_of_wp ?_
  go_wp2_with fail
  cases c₀
  simp_all [bodyPostS, results, Try.f188]

end Go.Proofs.Ytepddehodmljeaa
