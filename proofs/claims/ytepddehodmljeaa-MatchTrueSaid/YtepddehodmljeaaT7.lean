/- Walks: haspref.grown. -/
import Derived.Test.YtepddehodmljeaaT6
namespace Go.Proofs.Ytepddehodmljeaa
open Go.RowKit Go.Maps

/-- Of S, and laid ahead of n. -/
def Low (S : Blk) (n : Nat) : Blk := fun b => S b ∧ b < n
theorem IsInts.low {S : Blk} {w : World} {v : Value} {t : List Int} (h : IsInts S w v t) : IsInts (Low S w.heap.size) w v t := h.mono ⟨Nat.le_refl _, fun _ hs hb => ⟨⟨hs, hb⟩, rfl⟩⟩

/-- What is behind the first sign. -/
theorem rest_one {S : Blk} {w : World} {b o : Nat} {s : Int} {r : List Int} (h : IsInts S w (.slice (some ⟨b, o, none⟩) (r.length + 1) 1) (s :: r)) : r = [] ∧ IsInts S w (.slice (some ⟨b, o, none⟩) r.length 0) r := by
  obtain ⟨hlen, ⟨h, -⟩ | ⟨-, b', o', c', e, hcap, -⟩⟩ := h
  · cases h
  cases e
  have : r = [] := List.eq_nil_of_length_eq_zero (by simp at hcap; simp [hcap])
  subst this
  exact ⟨rfl, by simp, .inl ⟨rfl, _, 0, rfl, by simp⟩⟩
theorem rest_more {S : Blk} {w : World} {b o c : Nat} {s : Int} {r : List Int} (h : IsInts S w (.slice (some ⟨b, o, none⟩) (r.length + 1) c) (s :: r)) : IsInts S w (.slice (some ⟨b, o + 1, none⟩) r.length (c - 1)) r := by
  obtain ⟨hlen, ⟨h, -⟩ | ⟨-, b', o', c', e, hcap, hS, hlt, hc⟩⟩ := h
  · cases h
  cases e
  simp only [List.length_cons] at hlen hcap
  refine ⟨by omega, ?_⟩
  by_cases hr : r = []
  · subst hr; exact .inl ⟨rfl, _, _, rfl, by simp⟩
  · exact .inr ⟨hr, b, o + 1, c - 1, rfl, by omega, hS, hlt, fun j hj => by
      have := hc (j + 1) (by simp; omega)
      rw [nth_cons_succ] at this
      rw [← this, Nat.add_assoc, Nat.add_comm 1 j]⟩

set_option maxRecDepth 100000 in
theorem grown_leaf (s : Int) (r : List Int) (hs : ar s = 0) (S : Blk) (v : Value) (w : World) (hv : IsInts S w v (s :: r)) :
    Calls Try.prog 174 #[v] w fun e w' => ∃ p q, e = .returned (.tuple #[p, q]) ∧ IsTree (Fr w.heap.size) w' (.leaf s) p ∧ IsInts (Low S w.heap.size) w' q r ∧ Below w.heap.size w w' := by
  have hv0 := hv
  obtain ⟨hlen, ⟨h, -⟩ | ⟨-, b, o, c, rfl, hcap, hS, hlt, hc⟩⟩ := hv
  · cases h
  have hcell : w.cell? ⟨b, o, none⟩ = some (.int .i64 s) := hc 0 (by simp)
  have hz : (ar s : Int) ≤ 0 := by rw [hs]; exact Int.le_refl _
  have h1c : (1 : Int) ≤ c := by simp at hcap; omega
  have h1n : 1 ≤ c := by simp at hcap; omega
  clear hc hs
  by_cases h1 : c = 1
  · subst h1
    obtain ⟨rfl, hr⟩ := rest_one hv0
    have hR := Lib.hid hr.low
    clear hv0 hr
    go_enter Try.func174, Try.ntmps174
    go_wp2_with fail
    refine wp_loop_rounds 1 ?_
    rw [rounds_succ]
    go_wp2_with (go_at_call 123; refine (rsize_calls _ _).mono ?_; rintro e w' ⟨rfl, rfl⟩)
    go_ret2
    exact ⟨_, _, rfl, ⟨w.heap.size, rfl, Nat.le_refl _, by simp, by simp [go_sem], by simp [go_sem]⟩, hR.out.below (below_alloc _ _), below_alloc _ _⟩
  · have hr := rest_more hv0
    have hR := Lib.hid hr.low
    clear hv0 hr
    have h2c : (1 : Int) < c := by omega
    have h2n : 1 < c := by omega
    go_enter Try.func174, Try.ntmps174
    go_wp2_with fail
    refine wp_loop_rounds 1 ?_
    rw [rounds_succ]
    go_wp2_with (go_at_call 123; refine (rsize_calls _ _).mono ?_; rintro e w' ⟨rfl, rfl⟩)
    go_ret2
    exact ⟨_, _, rfl, ⟨w.heap.size, rfl, Nat.le_refl _, by simp, by simp [go_sem], by simp [go_sem]⟩, hR.out.below (below_alloc _ _), below_alloc _ _⟩

/-- A box of a tree in the making: the sign, and the parts so far. -/
def MakeTree (w : World) (s : Int) (ps : List Tm) (W : World) : Prop :=
  ∃ v, W.ownsRow w.heap.size 204 1 (.slice (some ⟨w.heap.size, 0, none⟩) 2 2) 2 [.int .i64 s, v] ∧ OwnRow (w.heap.size + 1) 155 1 TreeR (Fr (w.heap.size + 1)) W v ps ∧ Below w.heap.size w W ∧ w.heap.size < W.heap.size

theorem MakeTree.start (w : World) (s : Int) : MakeTree w s [] (w.alloc (.cells #[.int .i64 s, .slice none 0 0] 204)) :=
  ⟨.slice none 0 0, ⟨rfl, .inr ⟨_, 2, #[.int .i64 s, .slice none 0 0], rfl, Nat.le_refl _, (Array.getElem?_push_size), Nat.le_refl _, by simp [maxLen], rfl, rfl⟩⟩, OwnRow.nil _ _ _ _, below_alloc _ _, by simp⟩
theorem MakeTree.below {w W W' : World} {s : Int} {ps : List Tm} (h : MakeTree w s ps W) (hb : Below W.heap.size W W') : MakeTree w s ps W' := by
  obtain ⟨v, h1, h2, h3, h4⟩ := h
  exact ⟨v, ownsRow_keep h1 fun k hk => hb.block k (h1.lt k hk).2, h2.below TreeR.ok hb, ext_trans h3 hb, Nat.lt_of_lt_of_le h4 hb.size⟩

theorem MakeTree.appended {w W1 W2 W3 : World} {s : Int} {ps : List Tm} {a : Tm} {v' : Value} (h3 : Below w.heap.size w W1)
    (h4 : w.heap.size < W1.heap.size) (hO : OwnRow (w.heap.size + 1) 155 1 TreeR (Fr (w.heap.size + 1)) W2 v' (ps ++ [a])) (hB : Below (w.heap.size + 1) W1 W2)
    (hR : W3.ownsRow w.heap.size 204 1 (.slice (some ⟨w.heap.size, 0, none⟩) 2 2) 2 [.int .i64 s, v']) (hG : W2.grownBy W3 (some w.heap.size)) : MakeTree w s (ps ++ [a]) W3 := by
  have hz := hB.size
  have hz3 := hG.size
  refine ⟨v', hR, ?_, ?_, by omega⟩
  · refine hO.mono TreeR.ok ⟨hG.size, fun b hb hl => ⟨hb, hG.block b hl fun e => ?_⟩⟩ fun k hk => hG.block k (hO.block k hk).2 fun e => ?_
    · cases e; have : w.heap.size + 1 ≤ w.heap.size := hb; omega
    · cases e; have := (hO.block _ hk).1; omega
  · exact (h3.trans (hB.mono (by omega))).trans ⟨hG.os, hG.tape, hG.output, hG.size, fun k hk => hG.block k (by omega) fun e => by cases e; omega⟩

theorem tree_ptr {S : Blk} {w : World} {x : Tm} {v : Value} (h : IsTree S w x v) : ∃ B, v = .pointer (some ⟨B, 0, none⟩) := by
  cases x with
  | leaf s => obtain ⟨B, h, _⟩ := h; exact ⟨B, h⟩
  | un s a => obtain ⟨B, _, _, _, h, _⟩ := h; exact ⟨B, h⟩
  | bin s a b => obtain ⟨B, _, _, _, _, h, _⟩ := h; exact ⟨B, h⟩
theorem OwnRow.slice {α : Type} {R : Rep α} {base : Nat} {e : TypeId} {sz : Nat} {S : Blk} {w : World} {v : Value} {xs : List α} (h : OwnRow base e sz R S w v xs) : ∃ a c, v = .slice a xs.length c := by
  obtain ⟨cs, he, h1, ⟨hx, h0⟩ | ⟨g, cap, cur, hv, _⟩⟩ := h
  · exact ⟨none, 0, by rw [h0]; exact hx⟩
  · exact ⟨_, cap, hv⟩

theorem MakeTree.cell {w W : World} {s : Int} {ps : List Tm} (h : MakeTree w s ps W) : W.cell? ⟨w.heap.size, 0, none⟩ = some (.int .i64 s) := by
  obtain ⟨v, h1, -⟩ := h
  rw [h1.cellAt 0 (by omega)]; rfl
theorem MakeTree.low {w W : World} {s : Int} {ps : List Tm} (h : MakeTree w s ps W) : Below w.heap.size w W := by
  obtain ⟨v, -, -, h, -⟩ := h; exact h
theorem MakeTree.un {w W : World} {s : Int} {a : Tm} (h : MakeTree w s [a] W) : IsTree (Fr w.heap.size) W (.un s a) (.pointer (some ⟨w.heap.size, 0, none⟩)) := by
  have hc := h.cell
  obtain ⟨v, h1, h2, h3, h4⟩ := h
  obtain ⟨g, c, u, rfl, hg, hgl, hcu, ht⟩ := own_one h2
  exact ⟨w.heap.size, g, c, u, rfl, Nat.le_refl _, h4, hc, by rw [h1.cellAt 1 (by omega)]; rfl, by show w.heap.size ≤ g; omega, hgl, hcu, ht.mono (.weak fun b hb => by have : w.heap.size + 1 ≤ b := hb; show w.heap.size ≤ b; omega)⟩
theorem MakeTree.bin {w W : World} {s : Int} {a b : Tm} (h : MakeTree w s [a, b] W) : IsTree (Fr w.heap.size) W (.bin s a b) (.pointer (some ⟨w.heap.size, 0, none⟩)) := by
  have hc := h.cell
  obtain ⟨v, h1, h2, h3, h4⟩ := h
  obtain ⟨g, c, u, u', rfl, hg, hgl, hcu, hcu', ht, ht'⟩ := own_two h2
  exact ⟨w.heap.size, g, c, u, u', rfl, Nat.le_refl _, h4, hc, by rw [h1.cellAt 1 (by omega)]; rfl, by show w.heap.size ≤ g; omega, hgl, hcu, hcu', ht.mono (.weak fun b hb => by have : w.heap.size + 1 ≤ b := hb; show w.heap.size ≤ b; omega), ht'.mono (.weak fun b hb => by have : w.heap.size + 1 ≤ b := hb; show w.heap.size ≤ b; omega)⟩

/-- The next part, as it came. -/
theorem MakeTree.room {w W W1 : World} {s : Int} {ps : List Tm} {a : Tm} {p : Value} {n : Nat} (hn : ps.length = n) (h : MakeTree w s ps W) (hp : IsTree (Fr W.heap.size) W1 a p) (hb : Below W.heap.size W W1) :
    ∃ B v, p = .pointer (some ⟨B, 0, none⟩) ∧ (∃ ao c, v = .slice ao n c) ∧ W1.ownsRow w.heap.size 204 1 (.slice (some ⟨w.heap.size, 0, none⟩) 2 2) 2 [.int .i64 s, v] ∧ OwnRow (w.heap.size + 1) 155 1 TreeR (Fr (w.heap.size + 1)) W1 v ps ∧
      TreeR (Both' (Fr (w.heap.size + 1)) (Off v)) W1 [p] a ∧ Below w.heap.size w W1 ∧ w.heap.size < W1.heap.size ∧
      W1.cell? ⟨w.heap.size, 0, none⟩ = some (.int .i64 s) ∧ W1.cell? ⟨w.heap.size, 1, none⟩ = some v := by
  have h' := h
  obtain ⟨v, h1, h2, h3, h4⟩ := h
  have hz := hb.size
  have k1 : W1.ownsRow w.heap.size 204 1 (.slice (some ⟨w.heap.size, 0, none⟩) 2 2) 2 [.int .i64 s, v] := ownsRow_keep h1 fun k hk => hb.block k (h1.lt k hk).2
  obtain ⟨B, hpB⟩ := tree_ptr hp
  refine ⟨B, v, hpB, by rw [← hn]; exact h2.slice, k1, h2.below TreeR.ok hb, ⟨p, rfl, hp.mono (.weak fun b hbb => ⟨?_, fun e => ?_⟩)⟩, ext_trans h3 hb, by omega, by rw [k1.cellAt 0 (by omega)]; rfl, by rw [k1.cellAt 1 (by omega)]; rfl⟩
  · have : W.heap.size ≤ b := hbb; show w.heap.size + 1 ≤ b; omega
  · have : W.heap.size ≤ b := hbb
    have := (h2.block b e).2; omega

set_option maxRecDepth 100000 in
set_option maxHeartbeats 200000 in
theorem grown_un (s : Int) (a : Tm) (r : List Int) (hs : ar s = 1) (S : Blk) (v : Value) (w : World) (hv : IsInts S w v (s :: (a.flat ++ r)))
    (ih : ∀ (S : Blk) (v : Value) (w : World), IsInts S w v (a.flat ++ r) → Calls Try.prog 174 #[v] w fun e w' => ∃ p q, e = .returned (.tuple #[p, q]) ∧ IsTree (Fr w.heap.size) w' a p ∧ IsInts (Low S w.heap.size) w' q r ∧ Below w.heap.size w w') :
    Calls Try.prog 174 #[v] w fun e w' => ∃ p q, e = .returned (.tuple #[p, q]) ∧ IsTree (Fr w.heap.size) w' (.un s a) p ∧ IsInts (Low S w.heap.size) w' q r ∧ Below w.heap.size w w' := by
  obtain ⟨i155, hi, hz, hsz, hby⟩ := info_parts Try.inf155
  obtain ⟨i202, hi2, hz2, hsz2, hby2⟩ := info_parts Try.inf202
  have hpos : 0 < (a.flat ++ r).length := by have := flat_ne a; cases h : a.flat; exact absurd h this; simp
  generalize a.flat ++ r = l at *
  have hv0 := hv
  obtain ⟨hlen, ⟨h, -⟩ | ⟨-, b, o, c, rfl, hcap, hS, hlt, hc⟩⟩ := hv
  · cases h
  have hcell : w.cell? ⟨b, o, none⟩ = some (.int .i64 s) := hc 0 (by simp)
  have h2n : 1 < c := by simp only [List.length_cons] at hcap; omega
  have h2c : (1 : Int) < c := by omega
  have hq := rest_more hv0
  have hQ := Lib.hid hq.low
  have hA1 := Lib.hid hs
  have hI := Lib.hid ih
  have hM0 := Lib.hid (MakeTree.start w s)
  clear hc hv0 hq hs ih hcap
  go_enter Try.func174, Try.ntmps174
  go_wp2_with fail
  refine wp_loop_rounds 2 ?_
  rw [rounds_succ]
  go_wp2_with (go_at_call 123; refine (rsize_calls _ _).mono ?_; rintro e w' ⟨rfl, rfl⟩; rw [hA1.out])
  have hcall := hI.out _ _ _ (hQ.out.below (below_alloc w (.cells #[.int .i64 s, .slice none 0 0] 204)))
  refine hcall.mono ?_
  rintro e w1 ⟨p, q, rfl, ht, hq1, hB1⟩
  obtain ⟨B, v1, rfl, ⟨ao, c1, rfl⟩, k1, k2, k3, k4, k5, k6, k7⟩ := hM0.out.room (n := 0) rfl ht hB1
  have K1 := Lib.hid k1
  have K2 := Lib.hid k2
  have K3 := Lib.hid k3
  have K4 := Lib.hid k4
  have HQ1 := Lib.hid hq1
  clear k1 k2 k3 k4 hq1 ht hM0
  go_wp2_with (first
    | (at_builtin; refine app_one TreeR.ok _ _ 202 rfl rfl (w.heap.size + 1) 155 i155 (.pointer none) 8 Try.underlying202 hi hz hsz hby rfl (by decide) K2.out (us := [.pointer (some ⟨B, 0, none⟩)]) (y := a) rfl rfl rfl ?c1 K3.out ?c2 (by decide) ?c3 ?_; rotate_left 3; intro v2 w2 hown2 hb2 hk2 _; obtain ⟨ao2, c2, rfl⟩ := hown2.slice)
    | ((with_reducible show wpList _ _ _ (Oper.mk none (Op.store _ _ _) _ _ _ _ :: _) _ _); refine store_own _ _ 202 rfl rfl rfl i202 hi2 hsz2 w.heap.size 204 w.heap.size 1 2 2 _ rfl (ownsRow_keep K1.out ?d1) ?d2 rfl ?_; rotate_left 2; intro w3 hR3 hG3 hz3))
  case c1 => intro u hu; simp at hu; subst hu; rfl
  case c2 => simp
  case c3 => omega
  case d1 => intro k hk; simp [Value.ownBlock] at hk; subst hk; exact hb2.block _ (Nat.lt_succ_self _)
  case d2 => omega
  have hM3 : Hid (MakeTree w s [a] w3) := MakeTree.appended K4.out k5 hown2 hb2 hR3 hG3
  have hc3 := hM3.out.cell
  have hQ3 : Hid (IsInts (Low S w.heap.size) w3 q r) := by
    refine HQ1.out.mono ⟨by have := hb2.size; omega, fun b hb hl => ⟨⟨hb.1.1, hb.1.2⟩, ?_⟩⟩
    have hbl : b < w.heap.size := hb.1.2
    rw [hG3.block b (by have := hb2.size; omega) (fun e => by cases e; omega), hb2.block b (by omega)]
  clear hown2 hR3 K1 K2 K3 k6 k7
  rw [rounds_succ]
  go_wp2_with (go_at_call 123; refine (rsize_calls _ _).mono ?_; rintro e w' ⟨rfl, rfl⟩; rw [hA1.out])
  go_ret2
  exact ⟨_, _, rfl, hM3.out.un, hQ3.out, hM3.out.low⟩

set_option maxRecDepth 100000 in
set_option maxHeartbeats 200000 in
theorem grown_bin (s : Int) (a a' : Tm) (r : List Int) (hs : ar s = 2) (S : Blk) (v : Value) (w : World) (hv : IsInts S w v (s :: (a.flat ++ (a'.flat ++ r))))
    (ih : ∀ (S : Blk) (v : Value) (w : World), IsInts S w v (a.flat ++ (a'.flat ++ r)) → Calls Try.prog 174 #[v] w fun e w' => ∃ p q, e = .returned (.tuple #[p, q]) ∧ IsTree (Fr w.heap.size) w' a p ∧ IsInts (Low S w.heap.size) w' q (a'.flat ++ r) ∧ Below w.heap.size w w')
    (ih' : ∀ (S : Blk) (v : Value) (w : World), IsInts S w v (a'.flat ++ r) → Calls Try.prog 174 #[v] w fun e w' => ∃ p q, e = .returned (.tuple #[p, q]) ∧ IsTree (Fr w.heap.size) w' a' p ∧ IsInts (Low S w.heap.size) w' q r ∧ Below w.heap.size w w') :
    Calls Try.prog 174 #[v] w fun e w' => ∃ p q, e = .returned (.tuple #[p, q]) ∧ IsTree (Fr w.heap.size) w' (.bin s a a') p ∧ IsInts (Low S w.heap.size) w' q r ∧ Below w.heap.size w w' := by
  obtain ⟨i155, hi, hz, hsz, hby⟩ := info_parts Try.inf155
  obtain ⟨i202, hi2, hz2, hsz2, hby2⟩ := info_parts Try.inf202
  have hpos : 0 < (a.flat ++ (a'.flat ++ r)).length := by have := flat_ne a; cases h : a.flat; exact absurd h this; simp
  generalize a'.flat ++ r = l' at *
  generalize a.flat ++ l' = l at *
  have hv0 := hv
  obtain ⟨hlen, ⟨h, -⟩ | ⟨-, b, o, c, rfl, hcap, hS, hlt, hc⟩⟩ := hv
  · cases h
  have hcell : w.cell? ⟨b, o, none⟩ = some (.int .i64 s) := hc 0 (by simp)
  have h2n : 1 < c := by simp only [List.length_cons] at hcap; omega
  have h2c : (1 : Int) < c := by omega
  have hq := rest_more hv0
  have hQ := Lib.hid hq.low
  have hA1 := Lib.hid hs
  have hI := Lib.hid ih
  have hI' := Lib.hid ih'
  have hM0 := Lib.hid (MakeTree.start w s)
  clear hc hv0 hq hs ih ih' hcap
  go_enter Try.func174, Try.ntmps174
  go_wp2_with fail
  refine wp_loop_rounds 3 ?_
  rw [rounds_succ]
  go_wp2_with (go_at_call 123; refine (rsize_calls _ _).mono ?_; rintro e w' ⟨rfl, rfl⟩; rw [hA1.out])
  have hcall := hI.out _ _ _ (hQ.out.below (below_alloc w (.cells #[.int .i64 s, .slice none 0 0] 204)))
  refine hcall.mono ?_
  rintro e w1 ⟨p, q, rfl, ht, hq1, hB1⟩
  obtain ⟨B, v1, rfl, ⟨ao, c1, rfl⟩, k1, k2, k3, k4, k5, k6, k7⟩ := hM0.out.room (n := 0) rfl ht hB1
  have K1 := Lib.hid k1
  have K2 := Lib.hid k2
  have K3 := Lib.hid k3
  have K4 := Lib.hid k4
  have HQ1 := Lib.hid hq1
  clear k1 k2 k3 k4 hq1 ht hM0
  go_wp2_with (first
    | (at_builtin; refine app_one TreeR.ok _ _ 202 rfl rfl (w.heap.size + 1) 155 i155 (.pointer none) 8 Try.underlying202 hi hz hsz hby rfl (by decide) K2.out (us := [.pointer (some ⟨B, 0, none⟩)]) (y := a) rfl rfl rfl ?c1 K3.out ?c2 (by decide) ?c3 ?_; rotate_left 3; intro v2 w2 hown2 hb2 hk2 _; obtain ⟨ao2, c2, rfl⟩ := hown2.slice)
    | ((with_reducible show wpList _ _ _ (Oper.mk none (Op.store _ _ _) _ _ _ _ :: _) _ _); refine store_own _ _ 202 rfl rfl rfl i202 hi2 hsz2 w.heap.size 204 w.heap.size 1 2 2 _ rfl (ownsRow_keep K1.out ?d1) ?d2 rfl ?_; rotate_left 2; intro w3 hR3 hG3 hz3))
  case c1 => intro u hu; simp at hu; subst hu; rfl
  case c2 => simp
  case c3 => omega
  case d1 => intro k hk; simp [Value.ownBlock] at hk; subst hk; exact hb2.block _ (Nat.lt_succ_self _)
  case d2 => omega
  have hM3 : Hid (MakeTree w s [a] w3) := MakeTree.appended K4.out k5 hown2 hb2 hR3 hG3
  have hc3 := hM3.out.cell
  have hQ3 : Hid (IsInts (Low S w.heap.size) w3 q l') := by
    refine HQ1.out.mono ⟨by have := hb2.size; omega, fun b hb hl => ⟨⟨hb.1.1, hb.1.2⟩, ?_⟩⟩
    have hbl : b < w.heap.size := hb.1.2
    rw [hG3.block b (by have := hb2.size; omega) (fun e => by cases e; omega), hb2.block b (by omega)]
  have hz3 : w.heap.size < w3.heap.size := by have := hb2.size; have := hG3.size; omega
  clear hown2 hR3 K1 K2 K3 k6 k7 hG3 hb2 hk2 hcall HQ1 K4
  rw [rounds_succ]
  go_wp2_with (go_at_call 123; refine (rsize_calls _ _).mono ?_; rintro e w' ⟨rfl, rfl⟩; rw [hA1.out])
  refine (hI'.out _ _ _ hQ3.out).mono ?_
  rintro e w4 ⟨p, q', rfl, ht, hq1, hB1⟩
  obtain ⟨B', v1, rfl, ⟨ao, c1, rfl⟩, k1, k2, k3, k4, k5, k6, k7⟩ := hM3.out.room (n := 1) rfl ht hB1
  have K1 := Lib.hid k1
  have K2 := Lib.hid k2
  have K3 := Lib.hid k3
  have K4 := Lib.hid k4
  have HQ1 := Lib.hid hq1
  clear k1 k2 k3 k4 hq1 ht hM3 hc3
  go_wp2_with (first
    | (at_builtin; refine app_one TreeR.ok _ _ 202 rfl rfl (w.heap.size + 1) 155 i155 (.pointer none) 8 Try.underlying202 hi hz hsz hby rfl (by decide) K2.out (us := [.pointer (some ⟨B', 0, none⟩)]) (y := a') rfl rfl rfl ?e1 K3.out ?e2 (by decide) ?e3 ?_; rotate_left 3; intro v5 w5 hown2 hb2 hk2 _; obtain ⟨ao5, c5, rfl⟩ := hown2.slice)
    | ((with_reducible show wpList _ _ _ (Oper.mk none (Op.store _ _ _) _ _ _ _ :: _) _ _); refine store_own _ _ 202 rfl rfl rfl i202 hi2 hsz2 w.heap.size 204 w.heap.size 1 2 2 _ rfl (ownsRow_keep K1.out ?f1) ?f2 rfl ?_; rotate_left 2; intro w6 hR3 hG3 hz6))
  case e1 => intro u hu; simp at hu; subst hu; rfl
  case e2 => simp
  case e3 => omega
  case f1 => intro k hk; simp [Value.ownBlock] at hk; subst hk; exact hb2.block _ (Nat.lt_succ_self _)
  case f2 => omega
  have hM6 : Hid (MakeTree w s [a, a'] w6) := MakeTree.appended K4.out k5 hown2 hb2 hR3 hG3
  have hc6 := hM6.out.cell
  have hQ6 : Hid (IsInts (Low S w.heap.size) w6 q' r) := by
    refine HQ1.out.mono ⟨by have := hb2.size; omega, fun b hb hl => ⟨⟨hb.1.1, hb.1.2⟩, ?_⟩⟩
    have hbl : b < w.heap.size := hb.1.2
    rw [hG3.block b (by have := hb2.size; omega) (fun e => by cases e; omega), hb2.block b (by omega)]
  clear hown2 hR3 K1 K2 K3 k6 k7
  rw [rounds_succ]
  go_wp2_with (go_at_call 123; refine (rsize_calls _ _).mono ?_; rintro e w' ⟨rfl, rfl⟩; rw [hA1.out])
  go_ret2
  exact ⟨_, _, rfl, hM6.out.bin, hQ6.out, hM6.out.low⟩

/-- The tree that begins at a place, and what is behind. -/
theorem grown_calls : ∀ (x : Tm) (r : List Int), x.ok → ∀ (S : Blk) (v : Value) (w : World), IsInts S w v (x.flat ++ r) →
    Calls Try.prog 174 #[v] w fun e w' => ∃ p q, e = .returned (.tuple #[p, q]) ∧ IsTree (Fr w.heap.size) w' x p ∧ IsInts (Low S w.heap.size) w' q r ∧ Below w.heap.size w w'
  | .leaf s, r, hx, S, v, w, hv => grown_leaf s r hx S v w hv
  | .un s a, r, hx, S, v, w, hv => grown_un s a r hx.1 S v w hv fun S v w h => grown_calls a r hx.2 S v w h
  | .bin s a a', r, hx, S, v, w, hv => grown_bin s a a' r hx.1 S v w (by simpa [Tm.flat] using hv) (fun S v w h => grown_calls a _ hx.2.1 S v w h) fun S v w h => grown_calls a' r hx.2.2 S v w h

end Go.Proofs.Ytepddehodmljeaa
