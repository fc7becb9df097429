/- Trees of the reference in memory. -/
import Derived.Test.YtepddehodmljeaaPf
import Derived.Test.YtepddehodmljeaaA4
import Derived.Test.YtepddehodmljeaaT5
namespace Go.Proofs.Ytepddehodmljeaa
open Go.RowKit Go.Maps

/-- A tree: a box of a sign and a slice of trees. -/
def IsTree (S : Blk) (w : World) : Tm → Value → Prop
  | .leaf s, v => ∃ B, v = .pointer (some ⟨B, 0, none⟩) ∧ S B ∧ B < w.heap.size ∧ w.cell? ⟨B, 0, none⟩ = some (.int .i64 s) ∧ w.cell? ⟨B, 1, none⟩ = some (.slice none 0 0)
  | .un s a, v => ∃ B g c u, v = .pointer (some ⟨B, 0, none⟩) ∧ S B ∧ B < w.heap.size ∧ w.cell? ⟨B, 0, none⟩ = some (.int .i64 s) ∧ w.cell? ⟨B, 1, none⟩ = some (.slice (some ⟨g, 0, none⟩) 1 c) ∧
      S g ∧ g < w.heap.size ∧ w.cell? ⟨g, 0, none⟩ = some u ∧ IsTree S w a u
  | .bin s a b, v => ∃ B g c u u', v = .pointer (some ⟨B, 0, none⟩) ∧ S B ∧ B < w.heap.size ∧ w.cell? ⟨B, 0, none⟩ = some (.int .i64 s) ∧ w.cell? ⟨B, 1, none⟩ = some (.slice (some ⟨g, 0, none⟩) 2 c) ∧
      S g ∧ g < w.heap.size ∧ w.cell? ⟨g, 0, none⟩ = some u ∧ w.cell? ⟨g, 1, none⟩ = some u' ∧ IsTree S w a u ∧ IsTree S w b u'

theorem sok_cell {S S' : Blk} {w w' : World} (h : Sok S S' w w') {b o : Nat} (hs : S b) (hb : b < w.heap.size) : w'.cell? ⟨b, o, none⟩ = w.cell? ⟨b, o, none⟩ :=
  World.cell?_of_block (w := w) (h.2 b hs hb).2

theorem IsTree.mono {S S' : Blk} {w w' : World} (hk : Sok S S' w w') : ∀ {x : Tm} {v : Value}, IsTree S w x v → IsTree S' w' x v
  | .leaf s, v, ⟨B, h1, h2, h3, h4, h5⟩ => ⟨B, h1, (hk.2 B h2 h3).1, Nat.lt_of_lt_of_le h3 hk.1, by rw [sok_cell hk h2 h3]; exact h4, by rw [sok_cell hk h2 h3]; exact h5⟩
  | .un s a, v, ⟨B, g, c, u, h1, h2, h3, h4, h5, h6, h7, h8, h9⟩ =>
    ⟨B, g, c, u, h1, (hk.2 B h2 h3).1, Nat.lt_of_lt_of_le h3 hk.1, by rw [sok_cell hk h2 h3]; exact h4, by rw [sok_cell hk h2 h3]; exact h5, (hk.2 g h6 h7).1, Nat.lt_of_lt_of_le h7 hk.1, by rw [sok_cell hk h6 h7]; exact h8, h9.mono hk⟩
  | .bin s a b, v, ⟨B, g, c, u, u', h1, h2, h3, h4, h5, h6, h7, h8, h9, h10, h11⟩ =>
    ⟨B, g, c, u, u', h1, (hk.2 B h2 h3).1, Nat.lt_of_lt_of_le h3 hk.1, by rw [sok_cell hk h2 h3]; exact h4, by rw [sok_cell hk h2 h3]; exact h5, (hk.2 g h6 h7).1, Nat.lt_of_lt_of_le h7 hk.1, by rw [sok_cell hk h6 h7]; exact h8, by rw [sok_cell hk h6 h7]; exact h9, h10.mono hk, h11.mono hk⟩

/-- One cell that holds a tree. -/
def TreeR : Rep Tm := fun S w us x => ∃ u, us = [u] ∧ IsTree S w x u
theorem TreeR.ok : Rep.Ok TreeR := fun _ _ _ _ _ _ ⟨u, h, k⟩ hk => ⟨u, h, k.mono hk⟩

theorem Try.inf155 : (Try.prog.info? 155).map (fun i => (i.zero, i.size, i.bytes)) = some (some (.pointer none), 1, 8) := by kernel_rfl
theorem Try.inf202 : (Try.prog.info? 202).map (fun i => (i.zero, i.size, i.bytes)) = some (some (.slice none 0 0), 1, 24) := by kernel_rfl

/-- A row of trees of the call's own, read. -/
theorem own_one {base : Nat} {S : Blk} {w : World} {v : Value} {a : Tm} (h : OwnRow base 155 1 TreeR S w v [a]) :
    ∃ g c u, v = .slice (some ⟨g, 0, none⟩) 1 c ∧ base ≤ g ∧ g < w.heap.size ∧ w.cell? ⟨g, 0, none⟩ = some u ∧ IsTree S w a u := by
  obtain ⟨g, c, cur, rfl, hb, hg, -⟩ := h.at (by simp)
  obtain ⟨⟨u, h1, u', h2, h3⟩, -⟩ := h.cell (k := 0) (by simp)
  simp at h2
  subst h2
  exact ⟨g, c, u, rfl, hb, lt_of_block hg, h1, h3.mono (.weak fun b h => h.1)⟩
theorem own_two {base : Nat} {S : Blk} {w : World} {v : Value} {a b : Tm} (h : OwnRow base 155 1 TreeR S w v [a, b]) :
    ∃ g c u u', v = .slice (some ⟨g, 0, none⟩) 2 c ∧ base ≤ g ∧ g < w.heap.size ∧ w.cell? ⟨g, 0, none⟩ = some u ∧ w.cell? ⟨g, 1, none⟩ = some u' ∧ IsTree S w a u ∧ IsTree S w b u' := by
  obtain ⟨g, c, cur, rfl, hb, hg, -⟩ := h.at (by simp)
  obtain ⟨⟨u, h1, u1, h2, h3⟩, -⟩ := h.cell (k := 0) (by simp)
  obtain ⟨⟨u', h4, u2, h5, h6⟩, -⟩ := h.cell (k := 1) (by simp)
  simp at h2 h5
  subst h2; subst h5
  exact ⟨g, c, u, u', rfl, hb, lt_of_block hg, h1, h4, h3.mono (.weak fun b h => h.1), h6.mono (.weak fun b h => h.1)⟩

end Go.Proofs.Ytepddehodmljeaa
