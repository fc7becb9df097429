/- Walks: Solve of unify. -/
import Derived.Test.YtepddehodmljeaaX6
import Derived.Deep.RegionWith
import Derived.Deep.RegionHeld3
namespace Go.Proofs.Ytepddehodmljeaa
open Go.RowKit Go.Maps

theorem own_set {α : Type} {R : Rep α} (hR : R.Ok) {w : World} {base : Nat} {e : TypeId} {S : Blk} {g k n c : Nat} {xs : List α} (hown : OwnRow base e 1 R S w (.slice (some ⟨g, 0, none⟩) n c) xs) (hk : k < xs.length) {y : α} {u : Value}
    (hy : R (Both' S fun b => b ≠ g) w [u] y) : OwnRow base e 1 R S (w.setCell ⟨g, k, none⟩ u) (.slice (some ⟨g, 0, none⟩) n c) (xs.set k y) ∧ w.grownBy (w.setCell ⟨g, k, none⟩ u) (some g) := by
  obtain ⟨cs, he, ho'⟩ := hown
  have hn : n = xs.length := by
    rcases ho'.2 with ⟨hx, _⟩ | ⟨_, _, _, hx, _⟩
    · simp at hx
    · simp at hx; exact hx.2.1
  subst hn
  have hst := ho'.stored k u
  have hsz : (w.setCell ⟨g, k, none⟩ u).heap.size = w.heap.size := by simp
  have e1 : (Both' S (Off (.slice (some ⟨g, 0, none⟩) xs.length c))) = Both' S fun b => b ≠ g := by
    funext b; simp only [Both', Off, Value.ownBlock]; apply propext; constructor
    · rintro ⟨a1, a2⟩; exact ⟨a1, fun e => a2 (by rw [e])⟩
    · rintro ⟨a1, a2⟩; exact ⟨a1, fun e => a2 (by cases e; rfl)⟩
  refine ⟨⟨cs.set k u, ?_, by simpa using hst.1⟩, hst.2⟩
  rw [e1] at he ⊢
  exact (he.set rfl k u y hk hy).mono hR ⟨by rw [hsz]; exact Nat.le_refl _, fun b hb _ => ⟨hb, Below.heap_setCell _ _ _ _ hb.2⟩⟩

/-- Right pairs, as trees. -/
def prT (l : Rus) : List (Tm × Tm) := l.map fun p => (tmOf p.1, tmOf p.2)
theorem prT_take {l : Rus} {k : Nat} (hk : k < l.length) : prT (l.take k) ++ [(tmOf (nthR l k).1, tmOf (nthR l k).2)] = prT (l.take (k + 1)) := by
  rw [nthR_eq hk, List.take_succ_eq_append_getElem hk, prT, prT, List.map_append]; rfl

theorem prT_app (a b : Rus) : prT (a ++ b) = prT a ++ prT b := List.map_append ..

def SolE (l : List (Tm × Tm)) (w : World) (e : Ending) (w' : World) : Prop :=
  ∃ s is er u, e = .returned (.tuple #[u, .bool is, .int .i64 er]) ∧ SolveR l s is er ∧ IsTerms (Fr w.heap.size) w' u s ∧ Below w.heap.size w w'

def nils8 : List Value := List.replicate 8 (.slice none 0 0)

/-- The memory of Solve, behind its beginning: the results' boxes, and the binder. -/
structure SoSt (w W : World) (a : Value) (b : Bool) (c : Int) : Prop where
  bel : Below w.heap.size w W
  size : w.heap.size + 4 ≤ W.heap.size
  c2 : W.cell? ⟨w.heap.size, 0, none⟩ = some a
  c3 : W.cell? ⟨w.heap.size + 1, 0, none⟩ = some (.bool b)
  c4 : W.cell? ⟨w.heap.size + 1 + 1, 0, none⟩ = some (.int .i64 c)
  f2 : W.frozen? ⟨w.heap.size, 0, none⟩ = false
  f3 : W.frozen? ⟨w.heap.size + 1, 0, none⟩ = false
  f4 : W.frozen? ⟨w.heap.size + 1 + 1, 0, none⟩ = false
theorem SoSt.keep {w W W' : World} {a : Value} {b : Bool} {c : Int} (h : SoSt w W a b c) (hk : Keeps (fun k => k = w.heap.size + 1 + 1 + 1) W W') : SoSt w W' a b c := by
  have hz := h.size
  exact ⟨⟨hk.os.trans h.bel.os, hk.tape.trans h.bel.tape, hk.output.trans h.bel.output, Nat.le_trans h.bel.size hk.size, fun k hkk => (hk.block k (by omega) (by omega)).trans (h.bel.block k hkk)⟩, Nat.le_trans hz hk.size,
    keeps_cell hk (by omega) (by omega) h.c2, keeps_cell hk (by omega) (by omega) h.c3, keeps_cell hk (by omega) (by omega) h.c4, keeps_frozen hk (by omega) (by omega) h.f2, keeps_frozen hk (by omega) (by omega) h.f3, keeps_frozen hk (by omega) (by omega) h.f4⟩

theorem SoSt.put {w W : World} {a0 a : Value} {b0 b : Bool} {c0 c : Int} (h : SoSt w W a0 b0 c0) :
    SoSt w (((W.setCell ⟨w.heap.size, 0, none⟩ a).setCell ⟨w.heap.size + 1, 0, none⟩ (.bool b)).setCell ⟨w.heap.size + 1 + 1, 0, none⟩ (.int .i64 c)) a b c := by
  have n1 : (⟨w.heap.size, 0, none⟩ : Addr) ≠ ⟨w.heap.size + 1, 0, none⟩ := fun e => by injection e with e; omega
  have n2 : (⟨w.heap.size, 0, none⟩ : Addr) ≠ ⟨w.heap.size + 1 + 1, 0, none⟩ := fun e => by injection e with e; omega
  have n3 : (⟨w.heap.size + 1, 0, none⟩ : Addr) ≠ ⟨w.heap.size + 1 + 1, 0, none⟩ := fun e => by injection e with e; omega
  have k2 : (W.setCell ⟨w.heap.size, 0, none⟩ a).cell? ⟨w.heap.size, 0, none⟩ = some a := World.cell?_setCell_same' _ _ _ (by rw [h.c2]; rfl)
  have k3 : (W.setCell ⟨w.heap.size, 0, none⟩ a).cell? ⟨w.heap.size + 1, 0, none⟩ = some (.bool b0) := (World.cell?_setCell_other _ _ _ _ n1).trans h.c3
  have k4 : (W.setCell ⟨w.heap.size, 0, none⟩ a).cell? ⟨w.heap.size + 1 + 1, 0, none⟩ = some (.int .i64 c0) := (World.cell?_setCell_other _ _ _ _ n2).trans h.c4
  have m2 := (World.cell?_setCell_other (W.setCell ⟨w.heap.size, 0, none⟩ a) _ _ (.bool b) (Ne.symm n1)).trans k2
  have m3 := World.cell?_setCell_same' (W.setCell ⟨w.heap.size, 0, none⟩ a) ⟨w.heap.size + 1, 0, none⟩ (.bool b) (by rw [k3]; rfl)
  have m4 := (World.cell?_setCell_other (W.setCell ⟨w.heap.size, 0, none⟩ a) _ _ (.bool b) n3).trans k4
  refine ⟨((h.bel.setCell (by simp) _).setCell (by simp) _).setCell (by simp; omega) _, by simpa using h.size, (World.cell?_setCell_other _ _ _ _ (Ne.symm n2)).trans m2, (World.cell?_setCell_other _ _ _ _ (Ne.symm n3)).trans m3, World.cell?_setCell_same' _ _ _ (by rw [m4]; rfl), ?_, ?_, ?_⟩
  · simp [go_sem, h.f2]
  · simp [go_sem, h.f3]
  · simp [go_sem, h.f4]
theorem SoSt.below {w W W' : World} {a : Value} {b : Bool} {c : Int} (h : SoSt w W a b c) (hb : Below W.heap.size W W') : SoSt w W' a b c := h.keep (.of_below hb)

theorem SoSt.keep3 {w W W' : World} {a : Value} {b : Bool} {c : Int} (h : SoSt w W a b c) (hk : Below (w.heap.size + 3) W W') : SoSt w W' a b c := by
  have hz := h.size
  have hc : ∀ k, k < w.heap.size + 3 → W'.heap[k]? = W.heap[k]? := hk.block
  have cell : ∀ k v, k < w.heap.size + 3 → W.cell? ⟨k, 0, none⟩ = v → W'.cell? ⟨k, 0, none⟩ = v := fun k v h1 h2 => (World.cell?_of_block (w := W) (a := ⟨k, 0, none⟩) (hc k h1)).trans h2
  have frz : ∀ k v, k < w.heap.size + 3 → W.frozen? ⟨k, 0, none⟩ = v → W'.frozen? ⟨k, 0, none⟩ = v := fun k v h1 h2 => (World.frozen?_of_block (w := W) (a := ⟨k, 0, none⟩) (hc k h1)).trans h2
  exact ⟨⟨hk.os.trans h.bel.os, hk.tape.trans h.bel.tape, hk.output.trans h.bel.output, Nat.le_trans h.bel.size hk.size, fun k hkk => (hc k (by omega)).trans (h.bel.block k hkk)⟩, Nat.le_trans hz hk.size,
    cell _ _ (by omega) h.c2, cell _ _ (by omega) h.c3, cell _ _ (by omega) h.c4, frz _ _ (by omega) h.f2, frz _ _ (by omega) h.f3, frz _ _ (by omega) h.f4⟩
theorem SoSt.put1 {w W : World} {a0 a : Value} {b0 : Bool} {c0 : Int} (h : SoSt w W a0 b0 c0) : SoSt w (W.setCell ⟨w.heap.size, 0, none⟩ a) a b0 c0 := by
  have n1 : (⟨w.heap.size, 0, none⟩ : Addr) ≠ ⟨w.heap.size + 1, 0, none⟩ := fun e => by injection e with e; omega
  have n2 : (⟨w.heap.size, 0, none⟩ : Addr) ≠ ⟨w.heap.size + 1 + 1, 0, none⟩ := fun e => by injection e with e; omega
  refine ⟨h.bel.setCell (by simp) _, by simpa using h.size, World.cell?_setCell_same' _ _ _ (by rw [h.c2]; rfl), (World.cell?_setCell_other _ _ _ _ n1).trans h.c3, (World.cell?_setCell_other _ _ _ _ n2).trans h.c4, ?_, ?_, ?_⟩
  · simp [go_sem, h.f2]
  · simp [go_sem, h.f3]
  · simp [go_sem, h.f4]
theorem ints_setSlice {S : Blk} {w : World} {v u : Value} {t : List Int} {a : Addr} {x : Option Addr} {n c : Nat} (h : IsInts S w v t) (ha : w.cell? a = some (.slice x n c)) : IsInts S (w.setCell a u) v t := by
  obtain ⟨hl, h | ⟨hne, b, o, c, rfl, hcap, hs, hlt, hc⟩⟩ := h
  · exact ⟨hl, .inl h⟩
  · refine ⟨hl, .inr ⟨hne, b, o, c, rfl, hcap, hs, by simpa using hlt, fun j hj => ?_⟩⟩
    have h1 := hc j hj
    exact (World.cell?_setCell_other _ _ _ _ (fun e => by rw [e, h1] at ha; cases ha)).trans h1
theorem BnIs.setSlice {B : Nat} {w : World} {β : Bn} {a : Addr} {x : Option Addr} {n c : Nat} (h : BnIs B w β) (hb : a.block ≠ B) (ha : w.cell? a = some (.slice x n c)) (u : Value) : BnIs B (w.setCell a u) β := by
  obtain ⟨vals, h1, h2, h3⟩ := h
  refine ⟨vals, ownsRow_setCell_other h1 (by simp [Value.ownBlock]; exact fun e => hb e.symm) u, h2, fun k hk => ?_⟩
  obtain ⟨v, g1, g2⟩ := h3 k hk
  refine ⟨v, g1, ?_⟩
  cases hβ : β (-1 - (k : Int)) with
  | none => rw [hβ] at g2; exact g2
  | some t => rw [hβ] at g2; exact ints_setSlice (t := t.flat) g2 ha

theorem leaf_inst {θ : Int → Tm} {v : Int} (h : v < 0) : (Tm.leaf v).inst θ = θ v := if_pos h

/-- What stands in the list behind k terms. -/
def rowK (θ : Int → Tm) (k : Nat) : List (List Int) := (List.range 8).map fun j : Nat => if j < k then (θ (-1 - (j : Int))).flat else [-1 - (j : Int)]
theorem rowK_len (θ : Int → Tm) (k : Nat) : (rowK θ k).length = 8 := by simp [rowK]
theorem rowK_zero (θ : Int → Tm) : rowK θ 0 = noneS := by simp [rowK, noneS, List.range_succ]
theorem rowK_all (θ : Int → Tm) : rowK θ 8 = meetS θ := by
  unfold rowK meetS
  refine List.map_congr_left fun j hj => ?_
  rw [if_pos (List.mem_range.1 hj)]
theorem rowK_get (θ : Int → Tm) {k : Nat} (hk : k < 8) : (rowK θ k)[k]'(by rw [rowK_len]; exact hk) = [-1 - (k : Int)] := by simp [rowK]
theorem rowK_set (θ : Int → Tm) {k : Nat} (hk : k < 8) : (rowK θ k).set k (θ (-1 - (k : Int))).flat = rowK θ (k + 1) := by
  refine List.ext_getElem? fun n => ?_
  rw [List.getElem?_set, rowK_len, if_pos hk]
  unfold rowK
  rw [List.getElem?_map, List.getElem?_map]
  by_cases hn : n < 8
  · rw [List.getElem?_range hn]
    by_cases e : k = n
    · subst e; simp
    · rw [if_neg e]
      simp only [Option.map_some]
      by_cases h : n < k
      · rw [if_pos h, if_pos (by omega)]
      · rw [if_neg h, if_neg (by omega)]
  · rw [List.getElem?_eq_none (by simp; omega)]
    rw [if_neg (by omega)]; rfl

theorem bn_new (W : World) : BnIs W.heap.size (W.alloc (.cells #[.slice none 0 0, .slice none 0 0, .slice none 0 0, .slice none 0 0, .slice none 0 0, .slice none 0 0, .slice none 0 0, .slice none 0 0] 211)) (fun _ => none) := by
  have h := lit_own W W.heap.size nils8 211 (Nat.le_refl _) (by simp [nils8])
  refine ⟨nils8, h, rfl, fun k hk => ⟨.slice none 0 0, ?_, rfl⟩⟩
  rw [nils8, List.getElem?_replicate, if_pos hk]

/-- Behind a throw, ahead of the deferred call. -/
def dfs (b : Nat) : List Deferred := [{ target := .fn (.func 188) #[.pointer (some ⟨b, 0, none⟩), .pointer (some ⟨b + 1, 0, none⟩), .pointer (some ⟨b + 1 + 1, 0, none⟩)], args := #[] }]
def PnQ (b : Nat) (W : World) : Exit → Act → World → Prop
  | .panic ch, a, w' => (a.tmps.getD 2 undef = .pointer (some ⟨b, 0, none⟩) ∧ a.tmps.getD 3 undef = .pointer (some ⟨b + 1, 0, none⟩) ∧ a.tmps.getD 4 undef = .pointer (some ⟨b + 1 + 1, 0, none⟩) ∧ a.defers = dfs b) ∧ ch = thrown ∧ Below W.heap.size W w'
  | _, _, _ => False
theorem pn_put {b : Nat} {W : World} {ch : List PanicEntry} {a : Act} {w' : World} {d : Nat} {v : Value} (hd : d ≠ 2 ∧ d ≠ 3 ∧ d ≠ 4) (h : PnQ b W (.panic ch) (a.put (some d) v) w') : PnQ b W (.panic ch) a w' := by
  obtain ⟨⟨h2, h3, h4, h5⟩, h6⟩ := h
  refine ⟨⟨?_, ?_, ?_, h5⟩, h6⟩
  · rw [← h2]; simp [Act.put, Array.getD_eq_getD_getElem?, Array.getElem?_setIfInBounds_ne hd.1]
  · rw [← h3]; simp [Act.put, Array.getD_eq_getD_getElem?, Array.getElem?_setIfInBounds_ne hd.2.1]
  · rw [← h4]; simp [Act.put, Array.getD_eq_getD_getElem?, Array.getElem?_setIfInBounds_ne hd.2.2]
theorem solE_big {l : List (Tm × Tm)} {θ : Int → Tm} (h1 : Mgu l θ) (h2 : SgS θ) (h3 : ¬ smallS θ) : SolveR l [] false 2 := .inr ⟨θ, h1, h2, .inr ⟨h3, rfl, rfl, rfl⟩⟩
theorem leaves_thrown {w W : World} {a0 : Value} {b0 : Bool} {c0 : Int} {l : List (Tm × Tm)} (h : SoSt w W a0 b0 c0) (hs : SolveR l [] false 2) : ∀ (a : Act) (w' : World) (ch : List PanicEntry), PnQ w.heap.size W (.panic ch) a w' → bodyPostD Try.prog Try.f151 (SolE l w) (.panic ch) a w' := by
  rintro a w' ch ⟨⟨h2, h3, h4, h5⟩, rfl, hb⟩
  have hS := h.below hb
  show Leaves Try.prog Try.f151 a.tmps (SolE l w) a.defers (.panicking thrown) w'
  rw [h5]
  obtain ⟨-, hz, g2, g3, g4, g5, g6, g7⟩ := hS
  refine ⟨by simp, .func 188, #[.pointer (some ⟨w.heap.size, 0, none⟩), .pointer (some ⟨w.heap.size + 1, 0, none⟩), .pointer (some ⟨w.heap.size + 1 + 1, 0, none⟩)], 188, #[.pointer (some ⟨w.heap.size, 0, none⟩), .pointer (some ⟨w.heap.size + 1, 0, none⟩), .pointer (some ⟨w.heap.size + 1 + 1, 0, none⟩)], rfl, by kernel_rfl, ?_⟩
  refine (catch_thrown w.heap.size (w.heap.size + 1) (w.heap.size + 1 + 1) w' _ _ _ (by omega) (by omega) (by omega) g2 g3 g4 g5 g6 g7).mono ?_
  rintro e u' w2 ⟨rfl, rfl, rfl⟩
  have hS2 := ((show SoSt w w' a0 b0 c0 from ⟨h.bel.trans (hb.mono h.bel.size), hz, g2, g3, g4, g5, g6, g7⟩).below (below_alloc w' (.cells #[] 212))).put (a := .slice none 0 0) (b := false) (c := 2)
  have q2 := hS2.c2
  have q3 := hS2.c3
  have q4 := hS2.c4
  refine ⟨.tuple #[.slice none 0 0, .bool false, .int .i64 2], ?_, [], false, 2, .slice none 0 0, rfl, hs, ⟨by simp, .inl ⟨rfl, none, 0, rfl, fun _ => rfl⟩⟩, hS2.bel⟩
  rw [Array.getD_eq_getD_getElem?] at h2 h3 h4
  simp [results, Try.f151, go_sem, h2, h3, h4, caught, q2, q3, q4]

theorem leaves_fine {w W : World} {n g c : Nat} {a0 : Value} {b0 : Bool} {c0 : Int} {l : List (Tm × Tm)} {θ : Int → Tm} (h : SoSt w W a0 b0 c0) (hrow : OwnRow n 24 1 TermR (Fr n) W (.slice (some ⟨g, 0, none⟩) 8 c) (meetS θ)) (hn : w.heap.size + 4 ≤ n)
    (h1 : Mgu l θ) (h2 : SgS θ) (h3 : smallS θ) (a : Act) (ha : a.defers = dfs w.heap.size) (t2 : a.tmps.getD 2 undef = .pointer (some ⟨w.heap.size, 0, none⟩)) (t3 : a.tmps.getD 3 undef = .pointer (some ⟨w.heap.size + 1, 0, none⟩)) (t4 : a.tmps.getD 4 undef = .pointer (some ⟨w.heap.size + 1 + 1, 0, none⟩)) :
    bodyPostD Try.prog Try.f151 (SolE l w) .ret a (((W.setCell ⟨w.heap.size, 0, none⟩ (.slice (some ⟨g, 0, none⟩) 8 c)).setCell ⟨w.heap.size + 1, 0, none⟩ (.bool true)).setCell ⟨w.heap.size + 1 + 1, 0, none⟩ (.int .i64 0)) := by
  have hS := h.put (a := .slice (some ⟨g, 0, none⟩) 8 c) (b := true) (c := 0)
  have hr2 : OwnRow n 24 1 TermR (Fr n) (((W.setCell ⟨w.heap.size, 0, none⟩ (.slice (some ⟨g, 0, none⟩) 8 c)).setCell ⟨w.heap.size + 1, 0, none⟩ (.bool true)).setCell ⟨w.heap.size + 1 + 1, 0, none⟩ (.int .i64 0)) (.slice (some ⟨g, 0, none⟩) 8 c) (meetS θ) := by
    have hst : ∀ b, n ≤ b → (((W.setCell ⟨w.heap.size, 0, none⟩ (.slice (some ⟨g, 0, none⟩) 8 c)).setCell ⟨w.heap.size + 1, 0, none⟩ (.bool true)).setCell ⟨w.heap.size + 1 + 1, 0, none⟩ (.int .i64 0)).heap[b]? = W.heap[b]? := fun b hb => by
      rw [Below.heap_setCell _ _ _ _ (by simp; omega), Below.heap_setCell _ _ _ _ (by simp; omega), Below.heap_setCell _ _ _ _ (by simp; omega)]
    exact hrow.mono TermR.ok ⟨by simp, fun b hb _ => ⟨hb, hst b hb⟩⟩ fun j hj => hst j (hrow.block j hj).1
  obtain ⟨W0, hW0⟩ : ∃ W0, W0 = (((W.setCell ⟨w.heap.size, 0, none⟩ (.slice (some ⟨g, 0, none⟩) 8 c)).setCell ⟨w.heap.size + 1, 0, none⟩ (.bool true)).setCell ⟨w.heap.size + 1 + 1, 0, none⟩ (.int .i64 0)) := ⟨_, rfl⟩
  rw [← hW0] at hS hr2 ⊢
  clear hW0
  show Leaves Try.prog Try.f151 a.tmps (SolE l w) a.defers .returning W0
  rw [ha]
  refine ⟨by simp, .func 188, #[.pointer (some ⟨w.heap.size, 0, none⟩), .pointer (some ⟨w.heap.size + 1, 0, none⟩), .pointer (some ⟨w.heap.size + 1 + 1, 0, none⟩)], 188, #[.pointer (some ⟨w.heap.size, 0, none⟩), .pointer (some ⟨w.heap.size + 1, 0, none⟩), .pointer (some ⟨w.heap.size + 1 + 1, 0, none⟩)], rfl, by kernel_rfl, ?_⟩
  refine (catch_idle _ _ _ W0).mono ?_
  rintro e u' w2 ⟨rfl, rfl, rfl⟩
  have hS2 := hS.below (below_alloc W0 (.cells #[] 212))
  have hr3 := OwnRow.terms (OwnRow.below TermR.ok hr2 (below_alloc W0 (.cells #[] 212))) (by simp [meetS])
  generalize W0.alloc (.cells #[] 212) = W1 at *
  have q2 := hS2.c2
  have q3 := hS2.c3
  have q4 := hS2.c4
  refine ⟨.tuple #[.slice (some ⟨g, 0, none⟩) 8 c, .bool true, .int .i64 0], ?_, meetS θ, true, 0, .slice (some ⟨g, 0, none⟩) 8 c, rfl, .inr ⟨θ, h1, h2, .inl ⟨h3, rfl, rfl, rfl⟩⟩, IsRow.mono TermR.ok hr3 (.weak fun b hb => ?_), hS2.bel⟩
  · rw [Array.getD_eq_getD_getElem?] at t2 t3 t4
    simp [results, Try.f151, go_sem, t2, t3, t4, q2, q3, q4]
  · have hb' : n ≤ b := hb
    show w.heap.size ≤ b
    omega

set_option maxRecDepth 100000 in
set_option maxHeartbeats 4000000 in
theorem Solve_calls (l : Rus) (v : Value) (w : World) (hv : IsRules Any w v l) (hr : ∀ p ∈ l, chk p.1 = 0 ∧ chk p.2 = 0) (hll : l.length ≤ 100) :
    Calls Try.prog 151 #[v] w (SolE (prT l) w) := by
  have hmf : ∀ (fn : Fn) (first cap : Array Value) (w : World), (Instr.makeFunc fn first cap).run Try.prog w = .ok (.func fn first cap) w := fun _ _ _ _ => rfl
  obtain ⟨W0, hW0⟩ : ∃ W0, W0 = ((((w.alloc (.cells #[.slice none 0 0] 22)).alloc (.cells #[.bool false] 4)).alloc (.cells #[.int .i64 0] 25)).alloc (.cells #[.slice none 0 0, .slice none 0 0, .slice none 0 0, .slice none 0 0, .slice none 0 0, .slice none 0 0, .slice none 0 0, .slice none 0 0] 211)) := ⟨_, rfl⟩
  have hB0 : Below w.heap.size w W0 := by rw [hW0]; exact ext_alloc (ext_alloc (ext_alloc (below_alloc _ _) _) _) _
  have hS0 : Hid (SoSt w W0 (.slice none 0 0) false 0) := by
    refine ⟨hB0, ?_, ?_, ?_, ?_, ?_, ?_, ?_⟩ <;> (rw [hW0]; simp [go_sem])
  have hN0 : Hid (BnIs (w.heap.size + 1 + 1 + 1) W0 (fun _ => none)) := by
    have := bn_new (((w.alloc (.cells #[.slice none 0 0] 22)).alloc (.cells #[.bool false] 4)).alloc (.cells #[.int .i64 0] 25))
    rw [← hW0] at this
    have hz : (((w.alloc (.cells #[.slice none 0 0] 22)).alloc (.cells #[.bool false] 4)).alloc (.cells #[.int .i64 0] 25)).heap.size = w.heap.size + 1 + 1 + 1 := by simp
    rw [hz] at this; exact this
  have hV0 : Hid (IsRules (fun b => b ≠ w.heap.size + 1 + 1 + 1) W0 v l) := hv.mono RuleR.ok ⟨hB0.size, fun b _ hb => ⟨by omega, hB0.block b hb⟩⟩
  obtain ⟨va, vc, rfl⟩ := hv.isSlice
  have hml := Lib.hid (metL_nil)
  have HR := Lib.hid hr
  have hll' : (l.length : Int) ≤ 100 := by omega
  clear hv hr hB0
  go_enter_defers Try.func151, Try.ntmps151
  go_wp2_with fail
  rw [← hW0]
  clear hW0
  go_loopw [13] (fun s13 wr => ∃ k : Nat, k ≤ l.length ∧ s13 = .int .i64 k ∧ Hid (∃ β, MetL (prT (l.take k)) true β ∧ BnIs (w.heap.size + 1 + 1 + 1) wr β ∧ Keeps (fun b => b = w.heap.size + 1 + 1 + 1) W0 wr)) (fun s13 _ => l.length - (intOf s13).toNat)
  case atStart => exact ⟨0, Nat.zero_le _, rfl, _, hml.out, hN0.out, .of_below (.refl _ _)⟩
  case round =>
    rename World => wr
    obtain ⟨k, hk, rfl, hP⟩ := hrel
    obtain ⟨β, hP1, hP2, hP3⟩ := hP.out
    have hSr := Lib.hid (hS0.out.keep hP3)
    have hML := Lib.hid hP1
    have hBN := Lib.hid hP2
    have hKP := Lib.hid hP3
    clear hP hP1 hP2 hP3
    by_cases hlk : k < l.length
    · have hkk : (k : Int) < l.length := by omega
      have hVr : IsRules (fun b => b ≠ w.heap.size + 1 + 1 + 1) wr (.slice va l.length vc) l := hV0.out.mono RuleR.ok ⟨hKP.out.size, fun b hb hl => ⟨hb, hKP.out.block b hl hb⟩⟩
      obtain ⟨hlen, ⟨rfl, -⟩ | ⟨b, o, c, e, hlt, -, hc⟩⟩ := hVr.cells
      · simp at hlk
      · cases e
        obtain ⟨u, x, hu, hx, hiu, hix⟩ := hc k hlk
        obtain ⟨a1, c1, e1⟩ := hiu.isSlice
        obtain ⟨a2, c2, e2⟩ := hix.isSlice
        subst e1 e2
        obtain ⟨r1, r2⟩ := HR.out _ (nthR_mem hlk)
        have hb1 := below_alloc wr (.cells #[.slice a1 (nthR l k).1.length c1, .slice a2 (nthR l k).2.length c2] 65)
        have hml1 := hML.out
        unfold MetL at hml1
        rw [if_pos rfl] at hml1
        obtain ⟨⟨θ, hθ⟩, -⟩ := hml1
        have f1 := (tm_chk r1).2
        have f2 := (tm_chk r2).2
        have hC := Lib.hid (meet_calls' (B := w.heap.size + 1 + 1 + 1) hθ (rtP_of r1 r2) _ _ _ (hBN.out.keep hb1) (by rw [f1]; exact hiu.below hb1) (by rw [f2]; exact hix.below hb1))
        have hB1 := Lib.hid hb1
        clear hiu hix r1 r2 f1 f2 hb1 hVr hc hlen hθ
        go_wp2_with fail
        refine hC.out.mono ?_
        rintro e w5 ⟨is, β', rfl, hM, hB5, hK5⟩
        have HM := Lib.hid hM
        have HB5 := Lib.hid hB5
        have hK6 := Lib.hid ((hKP.out.trans (.of_below hB1.out)).trans hK5)
        clear hM hB5 hK5
        have hsn := Lib.hid (metL_snoc hML.out HM.out)
        rw [prT_take hlk] at hsn
        cases is
        · have hS5 := hS0.out.keep hK6.out
          have HS5 := Lib.hid (hS5.put (a := .slice none 0 0) (b := false) (c := 0))
          have hno := Lib.hid (solveR_no (metL_no (m := prT (l.drop (k + 1))) hsn.out))
          rw [← prT_app, List.take_append_drop] at hno
          obtain ⟨-, -, g2, g3, g4, g5, g6, g7⟩ := hS5
          go_wp2_with fail
          have g2' := HS5.out.c2
          have g3' := HS5.out.c3
          have g4' := HS5.out.c4
          refine ⟨.tuple #[.slice none 0 0, .bool false, .int .i64 0], ?_, [], false, 0, .slice none 0 0, rfl, hno.out, ⟨by simp, .inl ⟨rfl, none, 0, rfl, fun _ => rfl⟩⟩, HS5.out.bel⟩
          simp [results, Try.f151, go_sem, g2', g3', g4']
        · go_wp2_with fail
          go_roundw
          case rel => exact ⟨k + 1, by omega, by go_num, β', hsn.out, HB5.out trivial, hK6.out⟩
          case measure => simp [intOf]; omega
    · obtain rfl : k = l.length := by omega
      rw [List.take_length] at hML
      have hml1 := hML.out
      unfold MetL at hml1
      rw [if_pos rfl] at hml1
      obtain ⟨⟨θ, hθ⟩, -⟩ := hml1
      obtain ⟨r, hr⟩ := hθ.rk
      have hsol := Lib.hid (solveR_yes hML.out hθ)
      have Hθ := Lib.hid hθ
      have Hr := Lib.hid hr
      clear hθ hr hML
      obtain ⟨-, hz, g2, g3, g4, g5, g6, g7⟩ := hSr.out
      go_wp2_with fail
      refine (None_calls wr).mono ?_
      rintro e w1 ⟨s, rfl, hO, hBw⟩
      obtain ⟨g, c, cur, rfl, hg, -, hc8⟩ := hO.at (by simp [noneS])
      have hS1 := Lib.hid (hSr.out.below hBw)
      have hN1 := Lib.hid (hBN.out.keep hBw)
      have hg4 : w.heap.size + 4 ≤ g := by omega
      have hgw := (hO.block g rfl).2
      have hS2 := Lib.hid (hS1.out.put1 (a := .slice (some ⟨g, 0, none⟩) 8 c))
      have hN2 := Lib.hid (hN1.out.setSlice (a := ⟨w.heap.size, 0, none⟩) (by simp; omega) hS1.out.c2 (.slice (some ⟨g, 0, none⟩) 8 c))
      have hO2 : Hid (OwnRow wr.heap.size 24 1 TermR (Fr wr.heap.size) (w1.setCell ⟨w.heap.size, 0, none⟩ (.slice (some ⟨g, 0, none⟩) 8 c)) (.slice (some ⟨g, 0, none⟩) 8 c) (rowK θ 0)) := by
        rw [rowK_zero]
        refine OwnRow.mono TermR.ok hO ⟨by simp, fun b hb hl => ⟨hb, Below.heap_setCell _ _ _ _ (by have h1 : wr.heap.size ≤ b := hb; simp; omega)⟩⟩ fun j hj => ?_
        have : j = g := by simp [Value.ownBlock] at hj; exact hj.symm
        subst this
        exact Below.heap_setCell _ _ _ _ (by simp; omega)
      obtain ⟨-, -, g2, g3, g4, g5, g6, g7⟩ := hS1.out
      clear hO hBw hc8
      have hl8 : (noneS.length : Int) = 8 := rfl
      go_wp2_with fail
      go_loopw [29] (fun s29 wr' => ∃ k : Nat, k ≤ 8 ∧ s29 = .int .i64 k ∧ Hid (∀ j : Nat, j < k → (θ (-1 - (j : Int))).size ≤ 30) ∧ Hid (SoSt w wr' (.slice (some ⟨g, 0, none⟩) 8 c) false 0) ∧ Hid (BnIs (w.heap.size + 1 + 1 + 1) wr' β) ∧
        Hid (OwnRow wr.heap.size 24 1 TermR (Fr wr.heap.size) wr' (.slice (some ⟨g, 0, none⟩) 8 c) (rowK θ k))) (fun s29 _ => 8 - (intOf s29).toNat)
      case atStart => exact ⟨0, by omega, rfl, fun j hj => by omega, hS2.out, hN2.out, hO2.out⟩
      case round =>
        rename World => wk
        obtain ⟨k, hk, rfl, hSm, hSk, hNk, hOk⟩ := hrel
        by_cases hk8 : k < 8
        · have hkk : (k : Int) < 8 := by omega
          obtain ⟨⟨u, hcu, hcR⟩, hfz⟩ := hOk.out.cell (k := k) (by rw [rowK_len]; exact hk8)
          rw [rowK_get θ hk8] at hcR
          obtain ⟨u', hu', hiu⟩ := hcR
          cases hu'
          have hiu' : IsInts (fun b => b ≠ w.heap.size + 1 + 1 + 1) (wk.drewN 1) u (Tm.leaf (-1 - (k : Int))).flat := hiu.mono ((Sok.weak fun b hb e => by have h1 : wr.heap.size ≤ b := hb.1; omega).trans (.of_below (below_drewN _ wk 1)))
          have hwh := Lib.hid (whole_calls Hθ.out Hr.out (r (-1 - (k : Int)) + 1) (.leaf (-1 - (k : Int))) u (wk.drewN 1) (by show ar _ = 0; exact ar_neg (by omega)) (fun s hs => by simp [Tm.flat] at hs; omega) (by simp [Tm.size]) (fun s hs _ => by simp [Tm.flat] at hs; subst hs; omega) (hNk.out.keep (below_drewN _ wk 1)) hiu')
          obtain ⟨-, hzk, d2, d3, d4, d5, d6, d7⟩ := hSk.out
          have hl8k : ((rowK θ k).length : Int) = 8 := by rw [rowK_len]; rfl
          have hS9 : Hid (∀ W', Below wk.heap.size wk W' → W'.cell? ⟨w.heap.size, 0, none⟩ = some (.slice (some ⟨g, 0, none⟩) 8 c) ∧ W'.cell? ⟨g, k, none⟩ = some u ∧ W'.frozen? ⟨g, k, none⟩ = false) := fun W' h =>
            ⟨(h.cell (p := ⟨w.heap.size, 0, none⟩) (World.block_lt_of_cell? _ _ d2)).trans d2, (h.cell (p := ⟨g, k, none⟩) (World.block_lt_of_cell? _ _ hcu)).trans hcu, (World.frozen?_of_block (w := wk) (a := ⟨g, k, none⟩) (h.block _ (World.block_lt_of_cell? _ _ hcu))).trans hfz⟩
          have hus : Hid (∃ x n c, u = .slice x n c) := by obtain ⟨a1, a2, e⟩ := hiu.isSlice; exact ⟨_, _, _, e⟩
          have hgk : g < wk.heap.size := World.block_lt_of_cell? _ _ hcu
          clear hiu hiu'
          have hS8 : Hid (∀ W', Below wk.heap.size wk W' → W'.cell? ⟨w.heap.size, 0, none⟩ = some (.slice (some ⟨g, 0, none⟩) 8 c) ∧ W'.frozen? ⟨g, k, none⟩ = false) := fun W' h => ⟨(hS9.out W' h).1, (hS9.out W' h).2.2⟩
          have hS7 : Hid (∀ W' x, Below wk.heap.size wk W' → (W'.setCell ⟨g, k, none⟩ x).cell? ⟨w.heap.size, 0, none⟩ = some (.slice (some ⟨g, 0, none⟩) 8 c) ∧ (W'.setCell ⟨g, k, none⟩ x).frozen? ⟨g, k, none⟩ = false) := fun W' x h =>
            ⟨(World.cell?_setCell_other _ _ _ _ (fun e => by injection e with e; omega)).trans (hS9.out W' h).1, by simp [go_sem, (hS9.out W' h).2.2]⟩
          by_cases hsz : (θ (-1 - (k : Int))).size ≤ 30
          · have hwh2 : Hid (Calls Try.prog 189 #[.pointer (some ⟨w.heap.size + 1 + 1 + 1, 0, none⟩), u] wk.drew fun e w' => ∃ v, e = .returned v ∧ IsInts (Fr wk.heap.size) w' v (θ (-1 - (k : Int))).flat ∧ Below wk.heap.size wk w') := by
              refine hwh.out.mono ?_
              rintro e w' ⟨hb, ⟨-, v, rfl, hv⟩ | ⟨hgt, -⟩⟩
              · rw [leaf_inst (by omega)] at hv
                exact ⟨v, rfl, hv, ext_trans (below_drewN _ wk 1) hb⟩
              · rw [leaf_inst (by omega), size_flat] at hgt
                omega
            clear hwh
            have e1 : wk.drew.cell? ⟨w.heap.size, 0, none⟩ = some (.slice (some ⟨g, 0, none⟩) 8 c) := d2
            have e3 : wk.drew.cell? ⟨g, k, none⟩ = some u := hcu
            clear d2 hcu hfz
            go_wp2_with fail
            refine wp_region_noPanic ?_
            refine wp_region_any (by kernel_rfl) ?_
            change wpAny _ _ _ _ _ _ _ (World.drew _)
            refine wpAny_take (i := 1) (v := ?v1) rfl (by kernel_rfl) (by kernel_rfl) (by kernel_rfl) (fun _ _ _ h => h) (Or.inl ⟨by rfl, ?hy1⟩) ?rest1
            case hy1 => (intro W; (try simp only [List.getElem_toArray, List.getElem_cons_zero, List.getElem_cons_succ]); go_simp <;> with_reducible rfl)
            try simp only [Act.put, List.getElem_toArray, List.getElem_cons_zero, List.getElem_cons_succ, List.setIfInBounds_toArray, List.set_cons_zero, List.set_cons_succ]
            refine wpAny_take (i := 2) (v := ?v2) rfl (by kernel_rfl) (by kernel_rfl) (by kernel_rfl) (fun _ _ _ h => h) (Or.inl ⟨by rfl, ?hy2⟩) ?rest2
            case hy2 => (intro W; (try simp only [List.getElem_toArray, List.getElem_cons_zero, List.getElem_cons_succ]); go_simp <;> with_reducible rfl)
            try simp only [Act.put, List.getElem_toArray, List.getElem_cons_zero, List.getElem_cons_succ, List.setIfInBounds_toArray, List.set_cons_zero, List.set_cons_succ]
            refine wpAny_take (i := 4) (v := ?v3) rfl (by kernel_rfl) (by kernel_rfl) (by kernel_rfl) (fun _ _ _ h => h) (Or.inl ⟨by rfl, ?hy3⟩) ?rest3
            case hy3 => (intro W; (try simp only [List.getElem_toArray, List.getElem_cons_zero, List.getElem_cons_succ]); go_simp <;> with_reducible rfl)
            try simp only [Act.put, List.getElem_toArray, List.getElem_cons_zero, List.getElem_cons_succ, List.setIfInBounds_toArray, List.set_cons_zero, List.set_cons_succ]
            refine wpAny_ready (rs := [0, 3]) (by kernel_rfl) (by simp) ?_
            refine AllReady.cons rfl (fun K0 hK0 => ?_) (AllReady.cons rfl (fun K0 hK0 => ?_) AllReady.nil)
            · (try simp only [List.getElem_toArray, List.getElem_cons_zero])
              go_simp
              refine hK0 _ _ ?_
              clear hK0 K0
              try simp only [Act.put, List.getElem_toArray, List.getElem_cons_zero, List.getElem_cons_succ, List.setIfInBounds_toArray, List.set_cons_zero, List.set_cons_succ]
              refine wpAny_ready (rs := [3]) (by kernel_rfl) (by simp) ?_
              refine AllReady.cons rfl (fun K0 hK0 => ?_) AllReady.nil
              (try simp only [List.getElem_toArray, List.getElem_cons_zero, List.getElem_cons_succ])
              go_simp
              refine hK0 _ _ ?_
              clear hK0 K0
              try simp only [Act.put, List.getElem_toArray, List.getElem_cons_zero, List.getElem_cons_succ, List.setIfInBounds_toArray, List.set_cons_zero, List.set_cons_succ]
              refine wpAny_ready (rs := [5]) (by kernel_rfl) (by simp) ?_
              refine AllReady.cons rfl (fun K0 hK0 => ?_) AllReady.nil
              (try simp only [List.getElem_toArray, List.getElem_cons_zero, List.getElem_cons_succ])
              go_simp
              refine hK0 _ _ ?_
              clear hK0 K0
              try simp only [Act.put, List.getElem_toArray, List.getElem_cons_zero, List.getElem_cons_succ, List.setIfInBounds_toArray, List.set_cons_zero, List.set_cons_succ]
              refine wpAny_ready (rs := [6]) (by kernel_rfl) (by simp) ?_
              refine AllReady.cons rfl (fun K0 hK0 => ?_) AllReady.nil
              (try simp only [List.getElem_toArray, List.getElem_cons_zero, List.getElem_cons_succ])
              go_simp
              refine hK0 _ _ ?_
              clear hK0 K0
              try simp only [Act.put, List.getElem_toArray, List.getElem_cons_zero, List.getElem_cons_succ, List.setIfInBounds_toArray, List.set_cons_zero, List.set_cons_succ]
              refine wpAny_ready (rs := [7]) (by kernel_rfl) (by simp) ?_
              refine AllReady.cons rfl (fun K0 hK0 => ?_) AllReady.nil
              (try simp only [List.getElem_toArray, List.getElem_cons_zero, List.getElem_cons_succ])
              go_simp
              go_at_call 189
              refine hwh2.out.mono ?_
              rintro e w5 ⟨v, rfl, hv, hb⟩
              obtain ⟨va', vc', hvs⟩ := hv.isSlice
              subst hvs
              have HV := Lib.hid (And.intro hv hb)
              obtain ⟨e4, e5, e6⟩ := hS9.out _ hb
              clear hv hb
              (try go_simp)
              refine hK0 _ _ ?_
              clear hK0 K0
              try simp only [Act.put, List.getElem_toArray, List.getElem_cons_zero, List.getElem_cons_succ, List.setIfInBounds_toArray, List.set_cons_zero, List.set_cons_succ]
              refine wpAny_ready (rs := [8]) (by kernel_rfl) (by simp) ?_
              refine AllReady.cons rfl (fun K0 hK0 => ?_) AllReady.nil
              (try simp only [List.getElem_toArray, List.getElem_cons_zero, List.getElem_cons_succ])
              go_simp
              refine hK0 _ _ ?_
              clear hK0 K0
              try simp only [Act.put, List.getElem_toArray, List.getElem_cons_zero, List.getElem_cons_succ, List.setIfInBounds_toArray, List.set_cons_zero, List.set_cons_succ]
              refine wpAny_ready (rs := [9]) (by kernel_rfl) (by simp) ?_
              refine AllReady.cons rfl (fun K0 hK0 => ?_) AllReady.nil
              (try simp only [List.getElem_toArray, List.getElem_cons_zero, List.getElem_cons_succ])
              go_simp
              refine hK0 _ _ ?_
              clear hK0 K0
              try simp only [Act.put, List.getElem_toArray, List.getElem_cons_zero, List.getElem_cons_succ, List.setIfInBounds_toArray, List.set_cons_zero, List.set_cons_succ]
              refine wpAny_done (by kernel_rfl) (NoPanic.normal ?_) _
              have hSm2 : Hid (∀ j : Nat, j < k + 1 → (θ (-1 - (j : Int))).size ≤ 30) := fun j hj => by
                by_cases e : j = k
                · subst e; exact hsz
                · exact hSm.out j (by omega)
              have hS3 := Lib.hid (hSk.out.below HV.out.2)
              have hS4 := Lib.hid (hS3.out.keep3 ((Below.refl _ _).setCell (p := ⟨g, k, none⟩) (by show w.heap.size + 3 ≤ g; omega) (.slice va' (θ (-1 - (k : Int))).flat.length vc')))
              obtain ⟨x1, x2, x3, hus'⟩ := hus.out
              rw [hus'] at e5
              have hN4 := Lib.hid ((hNk.out.keep HV.out.2).setSlice (a := ⟨g, k, none⟩) (by show g ≠ _; omega) e5 (.slice va' (θ (-1 - (k : Int))).flat.length vc'))
              have hO4 := Lib.hid (own_set TermR.ok (hOk.out.below TermR.ok HV.out.2) (k := k) (by rw [rowK_len]; exact hk8) (y := (θ (-1 - (k : Int))).flat) (u := .slice va' (θ (-1 - (k : Int))).flat.length vc')
                ⟨_, rfl, HV.out.1.mono (.weak fun b hb => ⟨by have h1 : wk.heap.size ≤ b := hb; show wr.heap.size ≤ b; omega, by have h1 : wk.heap.size ≤ b := hb; omega⟩)⟩).1
              rw [rowK_set θ hk8] at hO4
              clear hus' e5
              go_wp2_with fail
              go_roundw
              case rel => exact ⟨k + 1, by omega, by go_num, hSm2.out, hS4.out, hN4.out, hO4.out⟩
              case measure => simp [intOf]; omega
            · (try simp only [List.getElem_toArray, List.getElem_cons_zero, List.getElem_cons_succ])
              go_simp
              refine hK0 _ _ ?_
              clear hK0 K0
              try simp only [Act.put, List.getElem_toArray, List.getElem_cons_zero, List.getElem_cons_succ, List.setIfInBounds_toArray, List.set_cons_zero, List.set_cons_succ]
              refine wpAny_ready (rs := [0, 5]) (by kernel_rfl) (by simp) ?_
              refine AllReady.cons rfl (fun K0 hK0 => ?_) (AllReady.cons rfl (fun K0 hK0 => ?_) AllReady.nil)
              · (try simp only [List.getElem_toArray, List.getElem_cons_zero])
                go_simp
                refine hK0 _ _ ?_
                clear hK0 K0
                try simp only [Act.put, List.getElem_toArray, List.getElem_cons_zero, List.getElem_cons_succ, List.setIfInBounds_toArray, List.set_cons_zero, List.set_cons_succ]
                refine wpAny_ready (rs := [5]) (by kernel_rfl) (by simp) ?_
                refine AllReady.cons rfl (fun K0 hK0 => ?_) AllReady.nil
                (try simp only [List.getElem_toArray, List.getElem_cons_zero, List.getElem_cons_succ])
                go_simp
                refine hK0 _ _ ?_
                clear hK0 K0
                try simp only [Act.put, List.getElem_toArray, List.getElem_cons_zero, List.getElem_cons_succ, List.setIfInBounds_toArray, List.set_cons_zero, List.set_cons_succ]
                refine wpAny_ready (rs := [6]) (by kernel_rfl) (by simp) ?_
                refine AllReady.cons rfl (fun K0 hK0 => ?_) AllReady.nil
                (try simp only [List.getElem_toArray, List.getElem_cons_zero, List.getElem_cons_succ])
                go_simp
                refine hK0 _ _ ?_
                clear hK0 K0
                try simp only [Act.put, List.getElem_toArray, List.getElem_cons_zero, List.getElem_cons_succ, List.setIfInBounds_toArray, List.set_cons_zero, List.set_cons_succ]
                refine wpAny_ready (rs := [7]) (by kernel_rfl) (by simp) ?_
                refine AllReady.cons rfl (fun K0 hK0 => ?_) AllReady.nil
                (try simp only [List.getElem_toArray, List.getElem_cons_zero, List.getElem_cons_succ])
                go_simp
                go_at_call 189
                refine hwh2.out.mono ?_
                rintro e w5 ⟨v, rfl, hv, hb⟩
                obtain ⟨va', vc', hvs⟩ := hv.isSlice
                subst hvs
                have HV := Lib.hid (And.intro hv hb)
                obtain ⟨e4, e5, e6⟩ := hS9.out _ hb
                clear hv hb
                (try go_simp)
                refine hK0 _ _ ?_
                clear hK0 K0
                try simp only [Act.put, List.getElem_toArray, List.getElem_cons_zero, List.getElem_cons_succ, List.setIfInBounds_toArray, List.set_cons_zero, List.set_cons_succ]
                refine wpAny_ready (rs := [8]) (by kernel_rfl) (by simp) ?_
                refine AllReady.cons rfl (fun K0 hK0 => ?_) AllReady.nil
                (try simp only [List.getElem_toArray, List.getElem_cons_zero, List.getElem_cons_succ])
                go_simp
                refine hK0 _ _ ?_
                clear hK0 K0
                try simp only [Act.put, List.getElem_toArray, List.getElem_cons_zero, List.getElem_cons_succ, List.setIfInBounds_toArray, List.set_cons_zero, List.set_cons_succ]
                refine wpAny_ready (rs := [9]) (by kernel_rfl) (by simp) ?_
                refine AllReady.cons rfl (fun K0 hK0 => ?_) AllReady.nil
                (try simp only [List.getElem_toArray, List.getElem_cons_zero, List.getElem_cons_succ])
                go_simp
                refine hK0 _ _ ?_
                clear hK0 K0
                try simp only [Act.put, List.getElem_toArray, List.getElem_cons_zero, List.getElem_cons_succ, List.setIfInBounds_toArray, List.set_cons_zero, List.set_cons_succ]
                refine wpAny_done (by kernel_rfl) (NoPanic.normal ?_) _
                have hSm2 : Hid (∀ j : Nat, j < k + 1 → (θ (-1 - (j : Int))).size ≤ 30) := fun j hj => by
                  by_cases e : j = k
                  · subst e; exact hsz
                  · exact hSm.out j (by omega)
                have hS3 := Lib.hid (hSk.out.below HV.out.2)
                have hS4 := Lib.hid (hS3.out.keep3 ((Below.refl _ _).setCell (p := ⟨g, k, none⟩) (by show w.heap.size + 3 ≤ g; omega) (.slice va' (θ (-1 - (k : Int))).flat.length vc')))
                obtain ⟨x1, x2, x3, hus'⟩ := hus.out
                rw [hus'] at e5
                have hN4 := Lib.hid ((hNk.out.keep HV.out.2).setSlice (a := ⟨g, k, none⟩) (by show g ≠ _; omega) e5 (.slice va' (θ (-1 - (k : Int))).flat.length vc'))
                have hO4 := Lib.hid (own_set TermR.ok (hOk.out.below TermR.ok HV.out.2) (k := k) (by rw [rowK_len]; exact hk8) (y := (θ (-1 - (k : Int))).flat) (u := .slice va' (θ (-1 - (k : Int))).flat.length vc')
                  ⟨_, rfl, HV.out.1.mono (.weak fun b hb => ⟨by have h1 : wk.heap.size ≤ b := hb; show wr.heap.size ≤ b; omega, by have h1 : wk.heap.size ≤ b := hb; omega⟩)⟩).1
                rw [rowK_set θ hk8] at hO4
                clear hus' e5
                go_wp2_with fail
                go_roundw
                case rel => exact ⟨k + 1, by omega, by go_num, hSm2.out, hS4.out, hN4.out, hO4.out⟩
                case measure => simp [intOf]; omega
              · (try simp only [List.getElem_toArray, List.getElem_cons_zero, List.getElem_cons_succ])
                go_simp
                refine hK0 _ _ ?_
                clear hK0 K0
                try simp only [Act.put, List.getElem_toArray, List.getElem_cons_zero, List.getElem_cons_succ, List.setIfInBounds_toArray, List.set_cons_zero, List.set_cons_succ]
                refine wpAny_ready (rs := [0, 6]) (by kernel_rfl) (by simp) ?_
                refine AllReady.cons rfl (fun K0 hK0 => ?_) (AllReady.cons rfl (fun K0 hK0 => ?_) AllReady.nil)
                · (try simp only [List.getElem_toArray, List.getElem_cons_zero])
                  go_simp
                  refine hK0 _ _ ?_
                  clear hK0 K0
                  try simp only [Act.put, List.getElem_toArray, List.getElem_cons_zero, List.getElem_cons_succ, List.setIfInBounds_toArray, List.set_cons_zero, List.set_cons_succ]
                  refine wpAny_ready (rs := [6]) (by kernel_rfl) (by simp) ?_
                  refine AllReady.cons rfl (fun K0 hK0 => ?_) AllReady.nil
                  (try simp only [List.getElem_toArray, List.getElem_cons_zero, List.getElem_cons_succ])
                  go_simp
                  refine hK0 _ _ ?_
                  clear hK0 K0
                  try simp only [Act.put, List.getElem_toArray, List.getElem_cons_zero, List.getElem_cons_succ, List.setIfInBounds_toArray, List.set_cons_zero, List.set_cons_succ]
                  refine wpAny_ready (rs := [7]) (by kernel_rfl) (by simp) ?_
                  refine AllReady.cons rfl (fun K0 hK0 => ?_) AllReady.nil
                  (try simp only [List.getElem_toArray, List.getElem_cons_zero, List.getElem_cons_succ])
                  go_simp
                  go_at_call 189
                  refine hwh2.out.mono ?_
                  rintro e w5 ⟨v, rfl, hv, hb⟩
                  obtain ⟨va', vc', hvs⟩ := hv.isSlice
                  subst hvs
                  have HV := Lib.hid (And.intro hv hb)
                  obtain ⟨e4, e5, e6⟩ := hS9.out _ hb
                  clear hv hb
                  (try go_simp)
                  refine hK0 _ _ ?_
                  clear hK0 K0
                  try simp only [Act.put, List.getElem_toArray, List.getElem_cons_zero, List.getElem_cons_succ, List.setIfInBounds_toArray, List.set_cons_zero, List.set_cons_succ]
                  refine wpAny_ready (rs := [8]) (by kernel_rfl) (by simp) ?_
                  refine AllReady.cons rfl (fun K0 hK0 => ?_) AllReady.nil
                  (try simp only [List.getElem_toArray, List.getElem_cons_zero, List.getElem_cons_succ])
                  go_simp
                  refine hK0 _ _ ?_
                  clear hK0 K0
                  try simp only [Act.put, List.getElem_toArray, List.getElem_cons_zero, List.getElem_cons_succ, List.setIfInBounds_toArray, List.set_cons_zero, List.set_cons_succ]
                  refine wpAny_ready (rs := [9]) (by kernel_rfl) (by simp) ?_
                  refine AllReady.cons rfl (fun K0 hK0 => ?_) AllReady.nil
                  (try simp only [List.getElem_toArray, List.getElem_cons_zero, List.getElem_cons_succ])
                  go_simp
                  refine hK0 _ _ ?_
                  clear hK0 K0
                  try simp only [Act.put, List.getElem_toArray, List.getElem_cons_zero, List.getElem_cons_succ, List.setIfInBounds_toArray, List.set_cons_zero, List.set_cons_succ]
                  refine wpAny_done (by kernel_rfl) (NoPanic.normal ?_) _
                  have hSm2 : Hid (∀ j : Nat, j < k + 1 → (θ (-1 - (j : Int))).size ≤ 30) := fun j hj => by
                    by_cases e : j = k
                    · subst e; exact hsz
                    · exact hSm.out j (by omega)
                  have hS3 := Lib.hid (hSk.out.below HV.out.2)
                  have hS4 := Lib.hid (hS3.out.keep3 ((Below.refl _ _).setCell (p := ⟨g, k, none⟩) (by show w.heap.size + 3 ≤ g; omega) (.slice va' (θ (-1 - (k : Int))).flat.length vc')))
                  obtain ⟨x1, x2, x3, hus'⟩ := hus.out
                  rw [hus'] at e5
                  have hN4 := Lib.hid ((hNk.out.keep HV.out.2).setSlice (a := ⟨g, k, none⟩) (by show g ≠ _; omega) e5 (.slice va' (θ (-1 - (k : Int))).flat.length vc'))
                  have hO4 := Lib.hid (own_set TermR.ok (hOk.out.below TermR.ok HV.out.2) (k := k) (by rw [rowK_len]; exact hk8) (y := (θ (-1 - (k : Int))).flat) (u := .slice va' (θ (-1 - (k : Int))).flat.length vc')
                    ⟨_, rfl, HV.out.1.mono (.weak fun b hb => ⟨by have h1 : wk.heap.size ≤ b := hb; show wr.heap.size ≤ b; omega, by have h1 : wk.heap.size ≤ b := hb; omega⟩)⟩).1
                  rw [rowK_set θ hk8] at hO4
                  clear hus' e5
                  go_wp2_with fail
                  go_roundw
                  case rel => exact ⟨k + 1, by omega, by go_num, hSm2.out, hS4.out, hN4.out, hO4.out⟩
                  case measure => simp [intOf]; omega
                · (try simp only [List.getElem_toArray, List.getElem_cons_zero, List.getElem_cons_succ])
                  go_simp
                  refine hK0 _ _ ?_
                  clear hK0 K0
                  try simp only [Act.put, List.getElem_toArray, List.getElem_cons_zero, List.getElem_cons_succ, List.setIfInBounds_toArray, List.set_cons_zero, List.set_cons_succ]
                  refine wpAny_ready (rs := [0, 7]) (by kernel_rfl) (by simp) ?_
                  refine AllReady.cons rfl (fun K0 hK0 => ?_) (AllReady.cons rfl (fun K0 hK0 => ?_) AllReady.nil)
                  · (try simp only [List.getElem_toArray, List.getElem_cons_zero])
                    go_simp
                    refine hK0 _ _ ?_
                    clear hK0 K0
                    try simp only [Act.put, List.getElem_toArray, List.getElem_cons_zero, List.getElem_cons_succ, List.setIfInBounds_toArray, List.set_cons_zero, List.set_cons_succ]
                    refine wpAny_ready (rs := [7]) (by kernel_rfl) (by simp) ?_
                    refine AllReady.cons rfl (fun K0 hK0 => ?_) AllReady.nil
                    (try simp only [List.getElem_toArray, List.getElem_cons_zero, List.getElem_cons_succ])
                    go_simp
                    go_at_call 189
                    refine hwh2.out.mono ?_
                    rintro e w5 ⟨v, rfl, hv, hb⟩
                    obtain ⟨va', vc', hvs⟩ := hv.isSlice
                    subst hvs
                    have HV := Lib.hid (And.intro hv hb)
                    obtain ⟨e4, e5, e6⟩ := hS9.out _ hb
                    clear hv hb
                    (try go_simp)
                    refine hK0 _ _ ?_
                    clear hK0 K0
                    try simp only [Act.put, List.getElem_toArray, List.getElem_cons_zero, List.getElem_cons_succ, List.setIfInBounds_toArray, List.set_cons_zero, List.set_cons_succ]
                    refine wpAny_ready (rs := [8]) (by kernel_rfl) (by simp) ?_
                    refine AllReady.cons rfl (fun K0 hK0 => ?_) AllReady.nil
                    (try simp only [List.getElem_toArray, List.getElem_cons_zero, List.getElem_cons_succ])
                    go_simp
                    refine hK0 _ _ ?_
                    clear hK0 K0
                    try simp only [Act.put, List.getElem_toArray, List.getElem_cons_zero, List.getElem_cons_succ, List.setIfInBounds_toArray, List.set_cons_zero, List.set_cons_succ]
                    refine wpAny_ready (rs := [9]) (by kernel_rfl) (by simp) ?_
                    refine AllReady.cons rfl (fun K0 hK0 => ?_) AllReady.nil
                    (try simp only [List.getElem_toArray, List.getElem_cons_zero, List.getElem_cons_succ])
                    go_simp
                    refine hK0 _ _ ?_
                    clear hK0 K0
                    try simp only [Act.put, List.getElem_toArray, List.getElem_cons_zero, List.getElem_cons_succ, List.setIfInBounds_toArray, List.set_cons_zero, List.set_cons_succ]
                    refine wpAny_done (by kernel_rfl) (NoPanic.normal ?_) _
                    have hSm2 : Hid (∀ j : Nat, j < k + 1 → (θ (-1 - (j : Int))).size ≤ 30) := fun j hj => by
                      by_cases e : j = k
                      · subst e; exact hsz
                      · exact hSm.out j (by omega)
                    have hS3 := Lib.hid (hSk.out.below HV.out.2)
                    have hS4 := Lib.hid (hS3.out.keep3 ((Below.refl _ _).setCell (p := ⟨g, k, none⟩) (by show w.heap.size + 3 ≤ g; omega) (.slice va' (θ (-1 - (k : Int))).flat.length vc')))
                    obtain ⟨x1, x2, x3, hus'⟩ := hus.out
                    rw [hus'] at e5
                    have hN4 := Lib.hid ((hNk.out.keep HV.out.2).setSlice (a := ⟨g, k, none⟩) (by show g ≠ _; omega) e5 (.slice va' (θ (-1 - (k : Int))).flat.length vc'))
                    have hO4 := Lib.hid (own_set TermR.ok (hOk.out.below TermR.ok HV.out.2) (k := k) (by rw [rowK_len]; exact hk8) (y := (θ (-1 - (k : Int))).flat) (u := .slice va' (θ (-1 - (k : Int))).flat.length vc')
                      ⟨_, rfl, HV.out.1.mono (.weak fun b hb => ⟨by have h1 : wk.heap.size ≤ b := hb; show wr.heap.size ≤ b; omega, by have h1 : wk.heap.size ≤ b := hb; omega⟩)⟩).1
                    rw [rowK_set θ hk8] at hO4
                    clear hus' e5
                    go_wp2_with fail
                    go_roundw
                    case rel => exact ⟨k + 1, by omega, by go_num, hSm2.out, hS4.out, hN4.out, hO4.out⟩
                    case measure => simp [intOf]; omega
                  · (try simp only [List.getElem_toArray, List.getElem_cons_zero, List.getElem_cons_succ])
                    go_simp
                    go_at_call 189
                    refine hwh2.out.mono ?_
                    rintro e w5 ⟨v, rfl, hv, hb⟩
                    obtain ⟨va', vc', hvs⟩ := hv.isSlice
                    subst hvs
                    have HV := Lib.hid (And.intro hv hb)
                    obtain ⟨e4, e5, e6⟩ := hS9.out _ hb
                    clear hv hb
                    (try go_simp)
                    refine hK0 _ _ ?_
                    clear hK0 K0
                    try simp only [Act.put, List.getElem_toArray, List.getElem_cons_zero, List.getElem_cons_succ, List.setIfInBounds_toArray, List.set_cons_zero, List.set_cons_succ]
                    refine wpAny_ready (rs := [0]) (by kernel_rfl) (by simp) ?_
                    refine AllReady.cons rfl (fun K0 hK0 => ?_) AllReady.nil
                    (try simp only [List.getElem_toArray, List.getElem_cons_zero])
                    go_simp
                    refine hK0 _ _ ?_
                    clear hK0 K0
                    try simp only [Act.put, List.getElem_toArray, List.getElem_cons_zero, List.getElem_cons_succ, List.setIfInBounds_toArray, List.set_cons_zero, List.set_cons_succ]
                    refine wpAny_ready (rs := [8]) (by kernel_rfl) (by simp) ?_
                    refine AllReady.cons rfl (fun K0 hK0 => ?_) AllReady.nil
                    (try simp only [List.getElem_toArray, List.getElem_cons_zero, List.getElem_cons_succ])
                    go_simp
                    refine hK0 _ _ ?_
                    clear hK0 K0
                    try simp only [Act.put, List.getElem_toArray, List.getElem_cons_zero, List.getElem_cons_succ, List.setIfInBounds_toArray, List.set_cons_zero, List.set_cons_succ]
                    refine wpAny_ready (rs := [9]) (by kernel_rfl) (by simp) ?_
                    refine AllReady.cons rfl (fun K0 hK0 => ?_) AllReady.nil
                    (try simp only [List.getElem_toArray, List.getElem_cons_zero, List.getElem_cons_succ])
                    go_simp
                    refine hK0 _ _ ?_
                    clear hK0 K0
                    try simp only [Act.put, List.getElem_toArray, List.getElem_cons_zero, List.getElem_cons_succ, List.setIfInBounds_toArray, List.set_cons_zero, List.set_cons_succ]
                    refine wpAny_done (by kernel_rfl) (NoPanic.normal ?_) _
                    have hSm2 : Hid (∀ j : Nat, j < k + 1 → (θ (-1 - (j : Int))).size ≤ 30) := fun j hj => by
                      by_cases e : j = k
                      · subst e; exact hsz
                      · exact hSm.out j (by omega)
                    have hS3 := Lib.hid (hSk.out.below HV.out.2)
                    have hS4 := Lib.hid (hS3.out.keep3 ((Below.refl _ _).setCell (p := ⟨g, k, none⟩) (by show w.heap.size + 3 ≤ g; omega) (.slice va' (θ (-1 - (k : Int))).flat.length vc')))
                    obtain ⟨x1, x2, x3, hus'⟩ := hus.out
                    rw [hus'] at e5
                    have hN4 := Lib.hid ((hNk.out.keep HV.out.2).setSlice (a := ⟨g, k, none⟩) (by show g ≠ _; omega) e5 (.slice va' (θ (-1 - (k : Int))).flat.length vc'))
                    have hO4 := Lib.hid (own_set TermR.ok (hOk.out.below TermR.ok HV.out.2) (k := k) (by rw [rowK_len]; exact hk8) (y := (θ (-1 - (k : Int))).flat) (u := .slice va' (θ (-1 - (k : Int))).flat.length vc')
                      ⟨_, rfl, HV.out.1.mono (.weak fun b hb => ⟨by have h1 : wk.heap.size ≤ b := hb; show wr.heap.size ≤ b; omega, by have h1 : wk.heap.size ≤ b := hb; omega⟩)⟩).1
                    rw [rowK_set θ hk8] at hO4
                    clear hus' e5
                    go_wp2_with fail
                    go_roundw
                    case rel => exact ⟨k + 1, by omega, by go_num, hSm2.out, hS4.out, hN4.out, hO4.out⟩
                    case measure => simp [intOf]; omega
          · have hwp : Hid (Calls Try.prog 189 #[.pointer (some ⟨w.heap.size + 1 + 1 + 1, 0, none⟩), u] wk.drew fun e w' => e = .panicked thrown ∧ Below wk.heap.size wk w') := by
              refine hwh.out.mono ?_
              rintro e w' ⟨hb, ⟨hle, v, -, -⟩ | ⟨-, rfl⟩⟩
              · rw [leaf_inst (by omega), size_flat] at hle
                omega
              · exact ⟨rfl, ext_trans (below_drewN _ wk 1) hb⟩
            have hbig : Hid (¬ smallS θ) := fun h => hsz (h k hk8)
            have hL := Lib.hid (leaves_thrown hSk.out (solE_big hsol.out.1 hsol.out.2 hbig.out))
            have e2 : wk.drew.cell? ⟨w.heap.size, 0, none⟩ = some (.slice (some ⟨g, 0, none⟩) 8 c) := d2
            have e3 : wk.drew.cell? ⟨g, k, none⟩ = some u := hcu
            clear hwh d2 hcu
            go_wp2_with fail
            refine wp_mono (Q := PnQ w.heap.size wk) ?_ (fun e a' w' h => ?_)
            rotate_left
            · cases e with
              | panic ch => exact hL.out a' w' ch h
              | _ => exact (h : False).elim
            refine wp_region_any (by kernel_rfl) ?_
            change wpAny _ _ _ _ _ _ _ (World.drew _)
            refine wpAny_take (i := 1) (v := ?v4) rfl (by kernel_rfl) (by kernel_rfl) (by kernel_rfl) (fun _ _ _ h => pn_put (d := 33) (by decide) h) (Or.inl ⟨by rfl, ?hy4⟩) ?rest4
            case hy4 => (intro W; (try simp only [List.getElem_toArray, List.getElem_cons_zero, List.getElem_cons_succ]); go_simp <;> with_reducible rfl)
            try simp only [Act.put, List.getElem_toArray, List.getElem_cons_zero, List.getElem_cons_succ, List.setIfInBounds_toArray, List.set_cons_zero, List.set_cons_succ]
            refine wpAny_take (i := 2) (v := ?v5) rfl (by kernel_rfl) (by kernel_rfl) (by kernel_rfl) (fun _ _ _ h => pn_put (d := 34) (by decide) h) (Or.inl ⟨by rfl, ?hy5⟩) ?rest5
            case hy5 => (intro W; (try simp only [List.getElem_toArray, List.getElem_cons_zero, List.getElem_cons_succ]); go_simp <;> with_reducible rfl)
            try simp only [Act.put, List.getElem_toArray, List.getElem_cons_zero, List.getElem_cons_succ, List.setIfInBounds_toArray, List.set_cons_zero, List.set_cons_succ]
            refine wpAny_take (i := 4) (v := ?v6) rfl (by kernel_rfl) (by kernel_rfl) (by kernel_rfl) (fun _ _ _ h => pn_put (d := 36) (by decide) h) (Or.inl ⟨by rfl, ?hy6⟩) ?rest6
            case hy6 => (intro W; (try simp only [List.getElem_toArray, List.getElem_cons_zero, List.getElem_cons_succ]); go_simp <;> with_reducible rfl)
            try simp only [Act.put, List.getElem_toArray, List.getElem_cons_zero, List.getElem_cons_succ, List.setIfInBounds_toArray, List.set_cons_zero, List.set_cons_succ]
            refine wpAny_ready (rs := [0, 3]) (by kernel_rfl) (by simp) ?_
            refine AllReady.cons rfl (fun K0 hK0 => ?_) (AllReady.cons rfl (fun K0 hK0 => ?_) AllReady.nil)
            · (try simp only [List.getElem_toArray, List.getElem_cons_zero])
              go_simp
              refine hK0 _ _ ?_
              clear hK0 K0
              try simp only [Act.put, List.getElem_toArray, List.getElem_cons_zero, List.getElem_cons_succ, List.setIfInBounds_toArray, List.set_cons_zero, List.set_cons_succ]
              refine wpAny_ready (rs := [3]) (by kernel_rfl) (by simp) ?_
              refine AllReady.cons rfl (fun K0 hK0 => ?_) AllReady.nil
              (try simp only [List.getElem_toArray, List.getElem_cons_zero, List.getElem_cons_succ])
              go_simp
              refine hK0 _ _ ?_
              clear hK0 K0
              try simp only [Act.put, List.getElem_toArray, List.getElem_cons_zero, List.getElem_cons_succ, List.setIfInBounds_toArray, List.set_cons_zero, List.set_cons_succ]
              refine wpAny_ready (rs := [5]) (by kernel_rfl) (by simp) ?_
              refine AllReady.cons rfl (fun K0 hK0 => ?_) AllReady.nil
              (try simp only [List.getElem_toArray, List.getElem_cons_zero, List.getElem_cons_succ])
              go_simp
              refine hK0 _ _ ?_
              clear hK0 K0
              try simp only [Act.put, List.getElem_toArray, List.getElem_cons_zero, List.getElem_cons_succ, List.setIfInBounds_toArray, List.set_cons_zero, List.set_cons_succ]
              refine wpAny_ready (rs := [6]) (by kernel_rfl) (by simp) ?_
              refine AllReady.cons rfl (fun K0 hK0 => ?_) AllReady.nil
              (try simp only [List.getElem_toArray, List.getElem_cons_zero, List.getElem_cons_succ])
              go_simp
              refine hK0 _ _ ?_
              clear hK0 K0
              try simp only [Act.put, List.getElem_toArray, List.getElem_cons_zero, List.getElem_cons_succ, List.setIfInBounds_toArray, List.set_cons_zero, List.set_cons_succ]
              refine wpAny_ready (rs := [7]) (by kernel_rfl) (by simp) ?_
              refine AllReady.cons rfl (fun K0 hK0 => ?_) AllReady.nil
              (try simp only [List.getElem_toArray, List.getElem_cons_zero, List.getElem_cons_succ])
              go_simp
              go_at_call 189
              refine hwp.out.mono ?_
              rintro e w5 ⟨rfl, hb⟩
              exact ⟨⟨rfl, rfl, rfl, rfl⟩, rfl, hb⟩
            · (try simp only [List.getElem_toArray, List.getElem_cons_zero, List.getElem_cons_succ])
              go_simp
              refine hK0 _ _ ?_
              clear hK0 K0
              try simp only [Act.put, List.getElem_toArray, List.getElem_cons_zero, List.getElem_cons_succ, List.setIfInBounds_toArray, List.set_cons_zero, List.set_cons_succ]
              refine wpAny_ready (rs := [0, 5]) (by kernel_rfl) (by simp) ?_
              refine AllReady.cons rfl (fun K0 hK0 => ?_) (AllReady.cons rfl (fun K0 hK0 => ?_) AllReady.nil)
              · (try simp only [List.getElem_toArray, List.getElem_cons_zero])
                go_simp
                refine hK0 _ _ ?_
                clear hK0 K0
                try simp only [Act.put, List.getElem_toArray, List.getElem_cons_zero, List.getElem_cons_succ, List.setIfInBounds_toArray, List.set_cons_zero, List.set_cons_succ]
                refine wpAny_ready (rs := [5]) (by kernel_rfl) (by simp) ?_
                refine AllReady.cons rfl (fun K0 hK0 => ?_) AllReady.nil
                (try simp only [List.getElem_toArray, List.getElem_cons_zero, List.getElem_cons_succ])
                go_simp
                refine hK0 _ _ ?_
                clear hK0 K0
                try simp only [Act.put, List.getElem_toArray, List.getElem_cons_zero, List.getElem_cons_succ, List.setIfInBounds_toArray, List.set_cons_zero, List.set_cons_succ]
                refine wpAny_ready (rs := [6]) (by kernel_rfl) (by simp) ?_
                refine AllReady.cons rfl (fun K0 hK0 => ?_) AllReady.nil
                (try simp only [List.getElem_toArray, List.getElem_cons_zero, List.getElem_cons_succ])
                go_simp
                refine hK0 _ _ ?_
                clear hK0 K0
                try simp only [Act.put, List.getElem_toArray, List.getElem_cons_zero, List.getElem_cons_succ, List.setIfInBounds_toArray, List.set_cons_zero, List.set_cons_succ]
                refine wpAny_ready (rs := [7]) (by kernel_rfl) (by simp) ?_
                refine AllReady.cons rfl (fun K0 hK0 => ?_) AllReady.nil
                (try simp only [List.getElem_toArray, List.getElem_cons_zero, List.getElem_cons_succ])
                go_simp
                go_at_call 189
                refine hwp.out.mono ?_
                rintro e w5 ⟨rfl, hb⟩
                exact ⟨⟨rfl, rfl, rfl, rfl⟩, rfl, hb⟩
              · (try simp only [List.getElem_toArray, List.getElem_cons_zero, List.getElem_cons_succ])
                go_simp
                refine hK0 _ _ ?_
                clear hK0 K0
                try simp only [Act.put, List.getElem_toArray, List.getElem_cons_zero, List.getElem_cons_succ, List.setIfInBounds_toArray, List.set_cons_zero, List.set_cons_succ]
                refine wpAny_ready (rs := [0, 6]) (by kernel_rfl) (by simp) ?_
                refine AllReady.cons rfl (fun K0 hK0 => ?_) (AllReady.cons rfl (fun K0 hK0 => ?_) AllReady.nil)
                · (try simp only [List.getElem_toArray, List.getElem_cons_zero])
                  go_simp
                  refine hK0 _ _ ?_
                  clear hK0 K0
                  try simp only [Act.put, List.getElem_toArray, List.getElem_cons_zero, List.getElem_cons_succ, List.setIfInBounds_toArray, List.set_cons_zero, List.set_cons_succ]
                  refine wpAny_ready (rs := [6]) (by kernel_rfl) (by simp) ?_
                  refine AllReady.cons rfl (fun K0 hK0 => ?_) AllReady.nil
                  (try simp only [List.getElem_toArray, List.getElem_cons_zero, List.getElem_cons_succ])
                  go_simp
                  refine hK0 _ _ ?_
                  clear hK0 K0
                  try simp only [Act.put, List.getElem_toArray, List.getElem_cons_zero, List.getElem_cons_succ, List.setIfInBounds_toArray, List.set_cons_zero, List.set_cons_succ]
                  refine wpAny_ready (rs := [7]) (by kernel_rfl) (by simp) ?_
                  refine AllReady.cons rfl (fun K0 hK0 => ?_) AllReady.nil
                  (try simp only [List.getElem_toArray, List.getElem_cons_zero, List.getElem_cons_succ])
                  go_simp
                  go_at_call 189
                  refine hwp.out.mono ?_
                  rintro e w5 ⟨rfl, hb⟩
                  exact ⟨⟨rfl, rfl, rfl, rfl⟩, rfl, hb⟩
                · (try simp only [List.getElem_toArray, List.getElem_cons_zero, List.getElem_cons_succ])
                  go_simp
                  refine hK0 _ _ ?_
                  clear hK0 K0
                  try simp only [Act.put, List.getElem_toArray, List.getElem_cons_zero, List.getElem_cons_succ, List.setIfInBounds_toArray, List.set_cons_zero, List.set_cons_succ]
                  refine wpAny_ready (rs := [0, 7]) (by kernel_rfl) (by simp) ?_
                  refine AllReady.cons rfl (fun K0 hK0 => ?_) (AllReady.cons rfl (fun K0 hK0 => ?_) AllReady.nil)
                  · (try simp only [List.getElem_toArray, List.getElem_cons_zero])
                    go_simp
                    refine hK0 _ _ ?_
                    clear hK0 K0
                    try simp only [Act.put, List.getElem_toArray, List.getElem_cons_zero, List.getElem_cons_succ, List.setIfInBounds_toArray, List.set_cons_zero, List.set_cons_succ]
                    refine wpAny_ready (rs := [7]) (by kernel_rfl) (by simp) ?_
                    refine AllReady.cons rfl (fun K0 hK0 => ?_) AllReady.nil
                    (try simp only [List.getElem_toArray, List.getElem_cons_zero, List.getElem_cons_succ])
                    go_simp
                    go_at_call 189
                    refine hwp.out.mono ?_
                    rintro e w5 ⟨rfl, hb⟩
                    exact ⟨⟨rfl, rfl, rfl, rfl⟩, rfl, hb⟩
                  · (try simp only [List.getElem_toArray, List.getElem_cons_zero, List.getElem_cons_succ])
                    go_simp
                    go_at_call 189
                    refine hwp.out.mono ?_
                    rintro e w5 ⟨rfl, hb⟩
                    exact ⟨⟨rfl, rfl, rfl, rfl⟩, rfl, hb⟩
        · obtain rfl : k = 8 := by omega
          have hsm : Hid (smallS θ) := fun j hj => hSm.out j hj
          have hrow := hOk.out
          rw [rowK_all] at hrow
          have hROW := Lib.hid hrow
          obtain ⟨-, hzk, d2, d3, d4, d5, d6, d7⟩ := hSk.out
          clear hrow hOk
          go_wp2_with fail
          exact leaves_fine hSk.out hROW.out hz hsol.out.1 hsol.out.2 hsm.out _ rfl rfl rfl rfl

end Go.Proofs.Ytepddehodmljeaa
