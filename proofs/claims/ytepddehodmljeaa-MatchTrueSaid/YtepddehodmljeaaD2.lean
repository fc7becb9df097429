/- Walks: sub.Each, By, haspref.applied. -/
import Derived.Test.YtepddehodmljeaaD1
namespace Go.Proofs.Ytepddehodmljeaa
open Go.RowKit

/-- What a call may have done: blocks of M may have turned, nothing else that was there. -/
structure Keeps (M : Blk) (w w' : World) : Prop where
  os : w'.os = w.os
  tape : w'.tape = w.tape
  output : w'.output = w.output
  size : w.heap.size ≤ w'.heap.size
  block : ∀ k, k < w.heap.size → ¬ M k → w'.heap[k]? = w.heap[k]?

theorem Keeps.refl (M : Blk) (w : World) : Keeps M w w := ⟨rfl, rfl, rfl, Nat.le_refl _, fun _ _ _ => rfl⟩
theorem Keeps.of_below {M : Blk} {w w' : World} (h : Below w.heap.size w w') : Keeps M w w' := ⟨h.os, h.tape, h.output, h.size, fun k hk _ => h.block k hk⟩
theorem Keeps.below {w w' : World} (h : Keeps (fun _ => False) w w') : Below w.heap.size w w' := ⟨h.os, h.tape, h.output, h.size, fun k hk => h.block k hk id⟩
theorem Keeps.trans {M : Blk} {a b c : World} (h : Keeps M a b) (k : Keeps M b c) : Keeps M a c :=
  ⟨k.os.trans h.os, k.tape.trans h.tape, k.output.trans h.output, Nat.le_trans h.size k.size, fun i hi hm => (k.block i (Nat.lt_of_lt_of_le hi h.size) hm).trans (h.block i hi hm)⟩
theorem Keeps.weak {M M' : Blk} {w w' : World} (h : Keeps M w w') (hm : ∀ b, b < w.heap.size → M b → M' b) : Keeps M' w w' :=
  ⟨h.os, h.tape, h.output, h.size, fun k hk hn => h.block k hk fun hx => hn (hm k hk hx)⟩
/-- What came behind w is of no account. -/
theorem Keeps.from {M : Blk} {n : Nat} {w a b : World} (h : Keeps M w a) (k : Keeps (fun i => M i ∨ n ≤ i) a b) (hn : w.heap.size ≤ n) : Keeps M w b :=
  ⟨k.os.trans h.os, k.tape.trans h.tape, k.output.trans h.output, Nat.le_trans h.size k.size, fun i hi hm =>
    (k.block i (Nat.lt_of_lt_of_le hi h.size) (by rintro (hx | hx); exact hm hx; omega)).trans (h.block i hi hm)⟩
theorem Keeps.of_grown {n : Nat} {w w' : World} {row : Option Nat} (hg : w.grownBy w' row) (hr : ∀ k, row = some k → n ≤ k) (M : Blk) : Keeps (fun i => M i ∨ n ≤ i) w w' :=
  ⟨hg.os, hg.tape, hg.output, hg.size, fun k hk hm => hg.block k hk fun e => hm (.inr (hr k e.symm))⟩
theorem Keeps.sok {M S : Blk} {w w' : World} (h : Keeps M w w') (hs : ∀ b, b < w.heap.size → S b → ¬ M b) : Sok S S w w' :=
  ⟨h.size, fun b hb hl => ⟨hb, h.block b hl (hs b hl hb)⟩⟩

theorem ownsRow_keep {w w' : World} {base : Nat} {e : TypeId} {size : Nat} {v : Value} {n : Nat} {xs : List Value} (h : w.ownsRow base e size v n xs) (hb : ∀ k, v.ownBlock = some k → w'.heap[k]? = w.heap[k]?) : w'.ownsRow base e size v n xs := by
  obtain ⟨h1, h2⟩ := h
  refine ⟨h1, ?_⟩
  rcases h2 with h2 | ⟨g, cap, cur, rfl, hg, hh, r⟩
  · exact Or.inl h2
  · exact Or.inr ⟨g, cap, cur, rfl, hg, by rw [hb g rfl]; exact hh, r⟩

theorem joinF_le {f : Nat → List Int} {n : Nat} (h : ∀ k, k < n → (joinF f (k + 1)).length ≤ 1000000) : (joinF f n).length ≤ 9223372036854775807 := by
  cases n with
  | zero => simp [joinF]
  | succ n => exact Nat.le_trans (h n (by omega)) (by omega)

set_option maxHeartbeats 1000000 in
/-- sub.Each: the function value g, with what it has captured, makes of the k-th sign what 'f k' says; it may turn blocks of M alone; J tells its own state. -/
theorem Each_calls (t : List Int) (v : Value) (g : Nat) (cap : Array Value) (f : Nat → List Int) (M : Blk) (J : Nat → World → Prop) (w : World) (he : Enters g) (hv : IsInts (fun b => ¬ M b) w v t)
    (hJ0 : J 0 w) (hM : ∀ b, M b → b < w.heap.size)
    (hJ : ∀ k W W', J k W → Keeps (fun i => w.heap.size ≤ i) W W' → w.heap.size ≤ W.heap.size → J k W')
    (hf : ∀ k W, k < t.length → J k W → Keeps M w W → Calls Try.prog g (#[.int .i64 (nth t k)] ++ cap) W fun e W' => ∃ u, e = .returned u ∧ IsInts Any W' u (f k) ∧ J (k + 1) W' ∧ Keeps M W W')
    (hlen : ∀ k, k < t.length → (joinF f (k + 1)).length ≤ 1000000) :
    Calls Try.prog 166 #[v, .func (.func g) #[] cap] w fun e w' => ∃ u, e = .returned u ∧ IsInts (Fr w.heap.size) w' u (joinF f t.length) ∧ J t.length w' ∧ Keeps M w w' := by
  obtain ⟨i3, hi, hz, hsz, hby⟩ := info_parts Try.inf3
  obtain ⟨hln, ⟨rfl, a, c, rfl, -⟩ | ⟨hne, b, o, c, rfl, -, hnM, hlt, hc⟩⟩ := hv
  · have HJ := Lib.hid hJ0
    clear hf hJ hM hJ0 he hlen
    go_enter Try.func166, Try.ntmps166
    go_wp2_with fail
    refine wp_loop_rounds 1 ?_
    rw [rounds_succ]
    go_wp2_with fail
    go_ret
    exact ⟨_, rfl, .nil _ _, HJ.out, .refl _ _⟩
  · have he' : ∀ args w, (callFunc g args).run Try.prog w = .ok (.enter g args) w := he
    have HJ0 := Lib.hid hJ0
    have HJ := Lib.hid hJ
    have HM := Lib.hid hM
    have HF := Lib.hid hf
    have HL := Lib.hid hlen
    have HC := Lib.hid hc
    have HN := Lib.hid hnM
    clear he hf hJ hM hJ0 hlen hc hne hnM
    go_enter Try.func166, Try.ntmps166
    go_wp2_with fail
    go_loopw [5, 10] (fun out i wr => ∃ k : Nat, k ≤ t.length ∧ i = .int .i64 k ∧ Hid (wr.ownsRow w.heap.size 3 1 out (joinF f k).length ((joinF f k).map (Value.int .i64)) ∧ J k wr ∧ Keeps M w wr)) (fun _ i _ => t.length - (intOf i).toNat)
    case atStart => exact ⟨0, Nat.zero_le _, rfl, World.ownsRow_nil _ _ _ _, HJ0.out, .refl _ _⟩
    case round =>
      obtain ⟨k, hk, rfl, hR⟩ := hrel
      by_cases hlt' : k < t.length
      · have hcell : wr.cell? ⟨b, o + k, none⟩ = some (.int .i64 (nth t k)) := (World.cell?_of_block (w := w) (hR.out.2.2.block b hlt HN.out)).trans (HC.out k hlt')
        go_wp2_with fail
        refine (HF.out k wr hlt' hR.out.2.1 hR.out.2.2).mono ?_
        rintro e w1 ⟨u, rfl, hu, hJ1, hK1⟩
        have hown1 : w1.ownsRow w.heap.size 3 1 u5 (joinF f k).length ((joinF f k).map (Value.int .i64)) :=
          ownsRow_keep hR.out.1 fun j hj => hK1.block j (hR.out.1.lt j hj).2 fun hm => absurd (HM.out j hm) (by have := (hR.out.1.lt j hj).1; omega)
        have hO := Lib.hid hown1
        have hU := Lib.hid hu
        have hJ' := Lib.hid hJ1
        have hK' := Lib.hid (hR.out.2.2.trans hK1)
        have hsz1 := (hR.out.2.2.trans hK1).size
        have hL1 := Lib.hid (HL.out k hlt')
        clear hown1 hu hJ1 hK1 hcell
        go_wp2_with (at_builtin; refine app_ints _ _ 24 rfl rfl w.heap.size i3 Try.underlying24 hi hz hsz hby hO.out hU.out ?c1 ?c2 ?c3; rotate_left 2; intro v' w2 hown2 hb2 hg2 _)
        case c1 =>
          have := hL1.out
          rw [joinF, List.length_append] at this
          exact this
        case c2 => exact hsz1
        go_roundw
        case rel =>
          have hgr : ∀ j, (u5 : Value).ownBlock = some j → w.heap.size ≤ j := fun j hj => (hO.out.lt j hj).1
          refine ⟨k + 1, by omega, by go_num, hown2, HJ.out _ _ _ hJ'.out ?_ hsz1, ?_⟩
          · exact (Keeps.of_grown hg2 hgr (fun _ => False)).weak fun b _ h => h.resolve_left id
          · exact Keeps.from hK'.out (Keeps.of_grown hg2 hgr M) (Nat.le_refl _)
        case measure => simp [intOf]; omega
      · have hkl : k = t.length := by omega
        subst hkl
        go_wp2_with fail
        go_ret
        refine ⟨_, rfl, ints_of_own hR.out.1 ?_, hR.out.2.1, hR.out.2.2⟩
        exact joinF_le HL.out

theorem By1_calls (s : List (List Int)) (sv : Value) (B : Nat) (n : Int) (W : World) (hn : -8 ≤ n) (hn2 : n < 6) (hl : s.length = 8) (hs : IsTerms Any W sv s) (hB : W.cell? ⟨B, 0, none⟩ = some sv) :
    Calls Try.prog 167 #[.int .i64 n, .pointer (some ⟨B, 0, none⟩)] W fun e W' => ∃ u, e = .returned u ∧ IsInts Any W' u (sb s n) ∧ Below W.heap.size W W' := by
  by_cases h0 : n < 0
  · have hr : Hid (sb s n = nthT s (-1 - n).toNat) := by rw [Hid, sb, if_pos h0]
    have hm : (-1 - n).toNat < 8 := by omega
    obtain ⟨hlen, ⟨rfl, -⟩ | ⟨hne, b, o, c, rfl, -, -, hlt, cs, he, hc⟩⟩ := hs
    · simp at hl
    obtain ⟨u, hcu, hu⟩ := terms_cell he hc (j := (-1 - n).toNat) (by omega)
    rw [hl] at hB
    have hU := Lib.hid hu
    clear he hc hne hl hu
    go_enter Try.func167, Try.ntmps167
    go_wp2_with fail
    go_ret
    exact ⟨_, rfl, by rw [hr.out]; exact hU.out, .refl _ _⟩
  · have hr : Hid (sb s n = [n]) := by rw [Hid, sb, if_neg h0]
    have h0' : 0 ≤ n := by omega
    clear hs hB
    go_enter Try.func167, Try.ntmps167
    go_wp2_with fail
    go_ret
    refine ⟨_, rfl, ?_, below_alloc _ _⟩
    rw [hr.out]
    exact (ints_lit W W.heap.size [n] 3 (Nat.le_refl _) (by simp)).any

/-- Signs of a right term. -/
def Signs (t : List Int) : Prop := ∀ x ∈ t, -8 ≤ x ∧ x < 6
theorem signs_of_chk {t : List Int} (h : chk t = 0) : Signs t := by
  intro x hx
  unfold chk at h
  split at h
  · simp at h
  · split at h
    · simp at h
    · rename_i h2
      have := List.any_eq_false.1 (Bool.not_eq_true _ ▸ h2) x hx
      simp at this; omega
theorem len_of_chk {t : List Int} (h : chk t = 0) : t.length ≤ 30 := by
  unfold chk at h
  split at h
  · simp at h
  · omega
theorem chk_nil : chk [] = 1 := rfl
theorem ne_of_chk {t : List Int} (h : chk t = 0) : t ≠ [] := by rintro rfl; rw [chk_nil] at h; simp at h

/-- A list that is right: eight right terms. -/
def RightS (s : List (List Int)) : Prop := s.length = 8 ∧ ∀ t ∈ s, chk t = 0
theorem chkL_zero {ts : List (List Int)} : chkL ts = 0 ↔ ∀ t ∈ ts, chk t = 0 := by
  induction ts with
  | nil => simp [chkL]
  | cons t ts ih =>
    rw [chkL]
    split
    · rename_i h; rw [ih]; simp [h]
    · rename_i h; simp [h]
theorem chkS_zero {s : List (List Int)} : chkS s = 0 ↔ RightS s := by
  unfold chkS RightS
  split
  · rename_i h; rw [chkL_zero]; simp [h]
  · rename_i h; simp [h]

theorem sb_len {s : List (List Int)} (hs : RightS s) {n : Int} (hn : -8 ≤ n) : (sb s n).length ≤ 30 := by
  unfold sb
  split
  · exact len_of_chk (hs.2 _ (nthT_mem (by rw [hs.1]; omega)))
  · simp
theorem app_len {s : List (List Int)} (hs : RightS s) {t : List Int} (ht : Signs t) : (app s t).length ≤ t.length * 30 :=
  flatMap_len _ _ _ fun x hx => sb_len hs (ht x hx).1

theorem below_box {S : Blk} {w : World} {v : Value} {s : List (List Int)} (h : IsTerms S w v s) (o : Obj) : IsTerms S (w.alloc o) v s := h.below TermR.ok (below_alloc w o)

theorem By_calls (s : List (List Int)) (t : List Int) (u v : Value) (w : World) (hs : RightS s) (ht : Signs t) (htl : t.length ≤ 1000) (hu : IsTerms Any w u s) (hv : IsInts Any w v t) :
    Calls Try.prog 100 #[u, v] w fun e w' => ∃ x, e = .returned x ∧ IsInts (Fr w.heap.size) w' x (app s t) ∧ Below w.heap.size w w' := by
  have hfin := Lib.hid (joinF_all (sb s) t)
  obtain ⟨a, c, rfl⟩ := hu.isSlice
  have hE := Lib.hid (Each_calls t v 167 #[.pointer (some ⟨w.heap.size, 0, none⟩)] (fun k => sb s (nth t k)) (fun _ => False)
    (fun _ W => Below (w.heap.size + 1) (w.alloc (.cells #[.slice a s.length c] 22)) W) (w.alloc (.cells #[.slice a s.length c] 22)) (enters_fn Try.func167 (by kernel_rfl) rfl)
    (hv.mono ⟨by simp, fun b _ hb => ⟨id, Below.heap_alloc _ _ _ hb⟩⟩) (.refl _ _) (fun _ h => h.elim)
    (fun k W W' h hk hz => h.trans ⟨hk.os, hk.tape, hk.output, hk.size, fun i hi => hk.block i (by have := h.size; simp at this hz; omega) (by simp; omega)⟩)
    (fun k W hk h _ => by
      have hx := ht _ (nth_mem hk)
      refine (By1_calls s (.slice a s.length c) w.heap.size (nth t k) W hx.1 hx.2 hs.1 ?_ ?_).mono ?_
      · exact (below_box hu _).mono TermR.ok ⟨h.size, fun b hb hl => ⟨hb, h.block b (by simpa using hl)⟩⟩
      · exact (h.cell (p := ⟨w.heap.size, 0, none⟩) (by simp)).trans (World.cell?_alloc_at _ _ _ _ rfl)
      · rintro e W' ⟨x, rfl, hx, hb⟩
        exact ⟨x, rfl, hx, h.trans (hb.mono (by have := h.size; simpa using this)), .of_below hb⟩)
    (fun k hk => by
      rw [joinF_flatMap _ _ _ hk]
      have h1 := flatMap_len (sb s) 30 (t.take (k + 1)) (fun x hx => sb_len hs (ht x (List.mem_of_mem_take hx)).1)
      have h2 : (t.take (k + 1)).length ≤ 1000 := by simp; omega
      exact Nat.le_trans h1 (by omega)))
  clear hs ht hu hv htl
  go_enter Try.func100, Try.ntmps100
  go_wp2_with fail
  refine hE.out.mono ?_
  rintro e w' ⟨x, rfl, hx, hJ, hK⟩
  go_wp2_with fail
  go_ret
  rw [hfin.out] at hx
  refine ⟨_, rfl, hx.mono (.weak fun b hb => Nat.le_trans (by simp) hb), (below_alloc w _).trans (hJ.mono (by simp))⟩

end Go.Proofs.Ytepddehodmljeaa
