/- Walks: the reader reads a term. -/
import Derived.Deep.RegionWith
import Derived.Test.YtepddehodmljeaaI3
import Derived.Test.YtepddehodmljeaaK1
namespace Go.Proofs.Ytepddehodmljeaa
open Go.RowKit

theorem idx_byte : ∀ (l : List UInt8) (c : UInt8), Lib.indexByte l c = if l.idxOf c < l.length then (l.idxOf c : Int) else -1
  | [], c => rfl
  | b :: l, c => by
    have ih := idx_byte l c
    unfold Lib.indexByte
    by_cases e : b = c
    · subst e; simp
    · have h1 : (b == c) = false := by simpa using e
      have h2 : (b :: l).idxOf c = l.idxOf c + 1 := by rw [List.idxOf_cons, h1]; rfl
      rw [h1, h2, ih, List.length_cons]
      by_cases h3 : l.idxOf c < l.length
      · have h4 : (((l.idxOf c : Nat) : Int) == -1) = false := by rw [beq_eq_false_iff_ne]; omega
        rw [if_pos h3, h4, if_pos (show l.idxOf c + 1 < l.length + 1 by omega)]
        simp
      · rw [if_neg h3, if_neg (show ¬ l.idxOf c + 1 < l.length + 1 by omega)]
        rfl
theorem ix_yes {c : UInt8} {n : Int} (h : sgnOf c = some n) : Lib.indexByte ltrL c = n + 8 := by
  unfold sgnOf at h
  split at h
  · rename_i h1
    cases h
    rw [idx_byte, if_pos (show ltrL.idxOf c < ltrL.length from h1)]; omega
  · cases h
theorem ix_no {c : UInt8} (h : sgnOf c = none) : Lib.indexByte ltrL c = -1 := by
  unfold sgnOf at h
  split at h
  · cases h
  · rename_i h1
    rw [idx_byte, if_neg (show ¬ ltrL.idxOf c < ltrL.length from h1)]
theorem IndexB_calls (c : UInt8) (w : World) :
    Calls Try.prog 185 #[.string ⟨#[115, 114, 113, 112, 119, 122, 121, 120, 97, 98, 103, 104, 102, 107]⟩, .int .u8 (c.toNat : Int)] w fun e w' => e = .returned (.int .i64 (Lib.indexByte ltrL c)) ∧ w' = w := by
  refine (Try.strings_IndexByte _ _ w).mono ?_
  rintro e w' ⟨rfl, rfl⟩
  have : ((c.toNat : Int)).toNat.toUInt8 = c := by simp
  rw [this]
  exact ⟨rfl, rfl⟩

/-- The reader: what is left of the text, and what has been read. -/
structure RdS (B : Nat) (w : World) (s : List UInt8) (t : List Int) : Prop where
  lt : B < w.heap.size
  c0 : w.cell? ⟨B, 0, none⟩ = some (.string ⟨s.toArray⟩)
  c1 : ∃ sv, w.cell? ⟨B, 1, none⟩ = some sv ∧ w.ownsRow (B + 1) 3 1 sv t.length (t.map (Value.int .i64))
  f0 : w.frozen? ⟨B, 0, none⟩ = false
  f1 : w.frozen? ⟨B, 1, none⟩ = false
theorem RdS.take {B : Nat} {w : World} {s r : List UInt8} {t : List Int} (h : RdS B w s t) : RdS B (w.setCell ⟨B, 0, none⟩ (.string ⟨r.toArray⟩)) r t := by
  have h2 := h.c0
  obtain ⟨sv, h3, h4⟩ := h.c1
  have hne : (⟨B, 1, none⟩ : Addr) ≠ ⟨B, 0, none⟩ := fun e => by injection e with _ e; omega
  have q1 : B < (w.setCell ⟨B, 0, none⟩ (.string ⟨r.toArray⟩)).heap.size := by rw [World.size_setCell]; exact h.lt
  have q2 : (w.setCell ⟨B, 0, none⟩ (.string ⟨r.toArray⟩)).cell? ⟨B, 0, none⟩ = some (.string ⟨r.toArray⟩) := World.cell?_setCell_same' _ _ _ (by rw [h2]; rfl)
  have q3 : (w.setCell ⟨B, 0, none⟩ (.string ⟨r.toArray⟩)).cell? ⟨B, 1, none⟩ = some sv := (World.cell?_setCell_other _ _ _ _ (Ne.symm hne)).trans h3
  have hlt : (⟨B, 0, none⟩ : Addr).block < B + 1 := by show B < B + 1; omega
  have q4 : (w.setCell ⟨B, 0, none⟩ (.string ⟨r.toArray⟩)).ownsRow (B + 1) 3 1 sv t.length (t.map (Value.int .i64)) := ownsRow_setCell_below h4 hlt _
  have q5 : (w.setCell ⟨B, 0, none⟩ (.string ⟨r.toArray⟩)).frozen? ⟨B, 0, none⟩ = false := by rw [World.frozen?_setCell]; exact h.f0
  have q6 : (w.setCell ⟨B, 0, none⟩ (.string ⟨r.toArray⟩)).frozen? ⟨B, 1, none⟩ = false := by rw [World.frozen?_setCell]; exact h.f1
  exact RdS.mk q1 q2 ⟨sv, q3, q4⟩ q5 q6
theorem RdS.put {B : Nat} {w w2 : World} {s : List UInt8} {t t' : List Int} {sv : Value} (h : RdS B w s t) (hb : Below (B + 1) w w2) (ho : w2.ownsRow (B + 1) 3 1 sv t'.length (t'.map (Value.int .i64))) : RdS B (w2.setCell ⟨B, 1, none⟩ sv) s t' := by
  have h2 := h.c0
  obtain ⟨sv0, h3, h4⟩ := h.c1
  have hB := hb.block B (Nat.lt_succ_self B)
  have hne : (⟨B, 0, none⟩ : Addr) ≠ ⟨B, 1, none⟩ := fun e => by injection e with _ e; omega
  have e0 : w2.cell? ⟨B, 0, none⟩ = some (.string ⟨s.toArray⟩) := (World.cell?_of_block (w := w) (a := ⟨B, 0, none⟩) hB).trans h2
  have e1 : w2.cell? ⟨B, 1, none⟩ = some sv0 := (World.cell?_of_block (w := w) (a := ⟨B, 1, none⟩) hB).trans h3
  have q1 : B < (w2.setCell ⟨B, 1, none⟩ sv).heap.size := by rw [World.size_setCell]; exact Nat.lt_of_lt_of_le h.lt hb.size
  have q2 : (w2.setCell ⟨B, 1, none⟩ sv).cell? ⟨B, 0, none⟩ = some (.string ⟨s.toArray⟩) := (World.cell?_setCell_other _ _ _ _ (Ne.symm hne)).trans e0
  have q3 : (w2.setCell ⟨B, 1, none⟩ sv).cell? ⟨B, 1, none⟩ = some sv := World.cell?_setCell_same' _ _ _ (by rw [e1]; rfl)
  have hlt : (⟨B, 1, none⟩ : Addr).block < B + 1 := by show B < B + 1; omega
  have q4 : (w2.setCell ⟨B, 1, none⟩ sv).ownsRow (B + 1) 3 1 sv t'.length (t'.map (Value.int .i64)) := ownsRow_setCell_below ho hlt _
  have q5 : (w2.setCell ⟨B, 1, none⟩ sv).frozen? ⟨B, 0, none⟩ = false := by rw [World.frozen?_setCell]; exact (World.frozen?_of_block (w := w) (a := ⟨B, 0, none⟩) hB).trans h.f0
  have q6 : (w2.setCell ⟨B, 1, none⟩ sv).frozen? ⟨B, 1, none⟩ = false := by rw [World.frozen?_setCell]; exact (World.frozen?_of_block (w := w) (a := ⟨B, 1, none⟩) hB).trans h.f1
  exact RdS.mk q1 q2 ⟨sv, q3, q4⟩ q5 q6
theorem drew_below (B : Nat) (w : World) : Below B w w.drew := ⟨rfl, rfl, rfl, Nat.le_refl _, fun _ _ => rfl⟩
theorem RdS.drew {B : Nat} {w : World} {s : List UInt8} {t : List Int} (h : RdS B w s t) : RdS B w.drew s t := ⟨h.lt, h.c0, h.c1, h.f0, h.f1⟩
theorem below_take {B : Nat} {w : World} (u : Value) : Below B w (w.setCell ⟨B, 0, none⟩ u) := (Below.refl _ _).setCell (by simp) _

/-- What comes of reading. -/
def RdE (B : Nat) (w : World) (o : Option (List UInt8 × List Int)) (e : Ending) (w' : World) : Prop :=
  Below B w w' ∧ match o with
    | some p => e = .returned (.tuple #[]) ∧ RdS B w' p.1 p.2
    | none => e = .panicked broke
/-- What is left to read, j parts ahead. -/
def rdK (f m : Nat) : Nat → List UInt8 → List Int → Option (List UInt8 × List Int)
  | 0, r, t => if m = 0 then some (r, t) else (exB 41 r).bind fun r => some (r, t)
  | j + 1, r, t => (exB (if m = j + 1 then 40 else 44) r).bind fun r => (rd f r t).bind fun p => rdK f m j p.1 p.2
theorem rd_K {f : Nat} {c : UInt8} {r : List UInt8} {t : List Int} {n : Int} (hc : sgnOf c = some n) (ht : t.length ≠ 30) : rd (f + 1) (c :: r) t = rdK f (ar n) (ar n) r (t ++ [n]) := by
  rw [rd, hc, Option.bind_some, if_neg ht]
  have := ar_le n
  rcases (by omega : ar n = 0 ∨ ar n = 1 ∨ ar n = 2) with h | h | h
  · rw [h]; rfl
  · rw [h]; rfl
  · rw [h]; rfl

theorem RdS.app {B : Nat} {w : World} {s : List UInt8} {t : List Int} (h : RdS B w s t) : ∃ sv, w.cell? ⟨B, 1, none⟩ = some sv ∧ w.ownsRow (B + 1) 3 1 sv t.length (t.map (Value.int .i64)) ∧ ∃ a c, sv = .slice a t.length c := by
  obtain ⟨sv, h1, h2⟩ := h.c1
  refine ⟨sv, h1, h2, ?_⟩
  rcases h2.2 with ⟨rfl, h0⟩ | ⟨g, cap, cur, rfl, -⟩
  · exact ⟨none, 0, by rw [h0]⟩
  · exact ⟨_, _, rfl⟩

theorem RdE.no {B : Nat} {w w' : World} {o : Option (List UInt8 × List Int)} (h : o = none) (hb : Below B w w') : RdE B w o (.panicked broke) w' := by
  subst h; exact ⟨hb, rfl⟩
theorem RdE.yes {B : Nat} {w w' : World} {o : Option (List UInt8 × List Int)} {r : List UInt8} {t : List Int} (h : o = some (r, t)) (hb : Below B w w') (hR : RdS B w' r t) : RdE B w o (.returned (.tuple #[])) w' := by
  subst h; exact ⟨hb, rfl, hR⟩
theorem takeR {B : Nat} {w : World} {c : UInt8} {r : List UInt8} {t : List Int} (h : RdS B w (c :: r) t) (hl : (c :: r).length ≤ 4096) :
    Calls Try.prog 186 #[.pointer (some ⟨B, 0, none⟩)] w fun e w' => e = .returned (.int .u8 (c.toNat : Int)) ∧ RdS B w' r t ∧ Below B w w' := by
  refine (take_calls B c r w h.c0 h.f0 (by simp at hl; omega)).mono ?_
  rintro e w' ⟨rfl, rfl⟩
  exact ⟨rfl, h.take, below_take _⟩
theorem rd_len {f : Nat} {s r : List UInt8} {t t' : List Int} (ht : t.length ≤ 30) (h : rd f s t = some (r, t')) : t.length ≤ t'.length ∧ t'.length ≤ 30 ∧ r.length ≤ s.length := by
  obtain ⟨a, -, -, e1, e2, e3⟩ := rd_back f s t r t' ht h
  refine ⟨?_, e3, ?_⟩
  · rw [e2, List.length_append]; omega
  · rw [e1, List.length_append]; omega
theorem comma_at (k j m : Nat) (hk : k + (j + 1) = m) (hm : m ≤ 2) : ∃ b : UInt8, (if m = j + 1 then (40 : UInt8) else 44) = b ∧ ∀ W, (Instr.index 9 (.string ⟨#[40, 44]⟩) (.int .i64 (k : Int))).run Try.prog W = .ok (.int .u8 (b.toNat : Int)) W := by
  rcases (by omega : k = 0 ∨ k = 1) with rfl | rfl
  · exact ⟨40, by rw [if_pos (by omega)], fun W => by rw [run_index_string W 9 _ .i64 _ (by kernel_rfl)]; rfl⟩
  · exact ⟨44, by rw [if_neg (by omega)], fun W => by rw [run_index_string W 9 _ .i64 _ (by kernel_rfl)]; rfl⟩

set_option maxRecDepth 100000 in
set_option maxHeartbeats 2000000 in
theorem term_calls (B : Nat) : ∀ (f : Nat) (s : List UInt8) (t : List Int) (w : World), 31 - t.length ≤ f → t.length ≤ 30 → s.length ≤ 4096 → RdS B w s t →
    Calls Try.prog 149 #[.pointer (some ⟨B, 0, none⟩)] w (RdE B w (rd f s t))
  | 0, s, t, w, hf, ht, _, _ => by omega
  | f + 1, [], t, w, _, _, _, hR => by
    have htk := Lib.hid (take_no B w hR.c0)
    go_enter Try.func149, Try.ntmps149
    go_wp2_with fail
    refine htk.out.mono ?_
    rintro e w' ⟨rfl, rfl⟩
    exact ⟨rfl, RdE.no rfl (.refl _ _)⟩
  | f + 1, c :: r, t, w, hf, ht, hl, hR => by
    obtain ⟨i3, hi, hz, hsz, hby⟩ := info_parts Try.inf3
    have hlr : r.length ≤ 4096 := by simp at hl; omega
    have htk := Lib.hid (takeR hR hl)
    have hBl := Lib.hid hR.lt
    cases hc : sgnOf c with
    | none =>
      have hix := Lib.hid (ix_no hc)
      have hrd : Hid (rd (f + 1) (c :: r) t = none) := by rw [Hid, rd, hc]; rfl
      clear hR hc hf
      go_enter Try.func149, Try.ntmps149
      go_wp2_with fail
      refine htk.out.mono ?_
      rintro e w1 ⟨rfl, hR1, hB1⟩
      go_wp2_with fail
      refine (IndexB_calls c _).mono ?_
      rintro e w' ⟨rfl, rfl⟩
      rw [hix.out]
      go_wp2_with fail
      exact ⟨rfl, RdE.no hrd.out hB1⟩
    | some n =>
      have hix := Lib.hid (ix_yes hc)
      obtain ⟨hn8, hn6, -⟩ := ltr_sgn hc
      by_cases h30 : t.length = 30
      · have hrd : Hid (rd (f + 1) (c :: r) t = none) := by rw [Hid, rd, hc, Option.bind_some, if_pos h30]
        have h30b : ((t.length : Int) == 30) = true := by rw [beq_iff_eq]; omega
        clear hR hc hf h30 ht
        go_enter Try.func149, Try.ntmps149
        go_wp2_with fail
        refine htk.out.mono ?_
        rintro e w1 ⟨rfl, hR1, hB1⟩
        obtain ⟨sv, hcell, -, sa, sc, hsv⟩ := hR1.app
        subst hsv
        go_wp2_with fail
        refine (IndexB_calls c _).mono ?_
        rintro e w' ⟨rfl, rfl⟩
        rw [hix.out]
        go_wp2_with fail
        exact ⟨rfl, RdE.no hrd.out hB1⟩
      · have hrd : Hid (rdK f (ar n) (ar n) r (t ++ [n]) = rd (f + 1) (c :: r) t) := (rd_K hc h30).symm
        have h30b : ((t.length : Int) == 30) = false := by rw [beq_eq_false_iff_ne]; omega
        have htl : Hid (t.length < 30) := by rw [Hid]; omega
        have hff := Lib.hid hf
        have hih := Lib.hid (term_calls B f)
        obtain ⟨t1, ht1'⟩ : ∃ t1, t1 = t ++ [n] := ⟨_, rfl⟩
        have ht1 := Lib.hid ht1'
        have hl1 : Hid (t1.length = t.length + 1) := by rw [Hid, ht1', List.length_append]; rfl
        rw [← ht1'] at hrd
        have har : Hid (ar n ≤ 2) := ar_le n
        clear hR hc hf h30 ht ht1'
        generalize rd (f + 1) (c :: r) t = O at *
        go_enter Try.func149, Try.ntmps149
        go_wp2_with fail
        refine htk.out.mono ?_
        rintro e w1 ⟨rfl, hR1, hB1⟩
        obtain ⟨sv, hcell, hown, sa, sc, hsv⟩ := hR1.app
        subst hsv
        have HR1 := Lib.hid hR1
        have HB1 := Lib.hid hB1
        have hX := Lib.hid (ints_one w1 n 3).any
        have hO := Lib.hid (hown.alloc (.cells #[.int .i64 n] 3))
        have hlt1 : Hid (B + 1 ≤ w1.heap.size) := hR1.lt
        have hn8' : n + 8 - 8 = n := by omega
        clear hR1 hB1 hown
        go_wp2_with fail
        refine (IndexB_calls c _).mono ?_
        rintro e w' ⟨rfl, rfl⟩
        rw [hix.out]
        go_wp2_with (at_builtin; refine app_ints _ _ 24 rfl rfl (B + 1) i3 Try.underlying24 hi hz hsz hby hO.out hX.out ?c1 ?c2 ?c3; rotate_left 2; intro v' w2 hown2 hb2 hg2 _; rw [← ht1.out] at hown2; obtain ⟨na, nc, hnv⟩ := (ints_of_own hown2 (by have h1 := hl1.out; have h2 := htl.out; omega)).isSlice; subst hnv; have hb3 := Lib.hid (((Below.refl (B + 1) _).alloc hlt1.out (.cells #[.int .i64 n] 3)).trans hb2); have hRp := Lib.hid (HR1.out.put hb3.out hown2); have hcc := (hb3.out.cell (p := ⟨B, 1, none⟩) (Nat.lt_succ_self B)).trans hcell; have hfz := (World.frozen?_of_block (a := ⟨B, 1, none⟩) (hb3.out.block B (Nat.lt_succ_self B))).trans HR1.out.f1; clear hown2 hb2 hg2)
        case c1 => have h2 := htl.out; simp; omega
        case c2 => have h2 := hlt1.out; simp; omega
        have hB4 : Hid (Below B w (w2.setCell ⟨B, 1, none⟩ (.slice na t1.length nc))) := (HB1.out.trans (hb3.out.mono (Nat.le_succ B))).setCell (Nat.le_refl B) _
        refine (Size_calls n (by omega) (by omega) _).mono ?_
        rintro e w' ⟨rfl, rfl⟩
        clear hcell hO hX hcc hfz hb3 htk HR1 HB1 hix hlt1 hi hz hsz hby
        generalize ar n = m at *
        go_wp2_with fail
        generalize w2.setCell ⟨B, 1, none⟩ (.slice na t1.length nc) = w4 at *
        go_loopw [34] (fun i wr => ∃ k j : Nat, k + j = m ∧ i = .int .i64 k ∧ Hid (Below B w wr ∧ ∃ r' t', RdS B wr r' t' ∧ rdK f m j r' t' = O ∧ t1.length ≤ t'.length ∧ t'.length ≤ 30 ∧ r'.length ≤ 4096)) (fun i _ => m - (intOf i).toNat)
        case atStart => exact ⟨0, m, by omega, rfl, hB4.out, r, t1, hRp.out, hrd.out, Nat.le_refl _, by have h1 := hl1.out; have h2 := htl.out; omega, hlr⟩
        case round =>
          rename World => wr
          obtain ⟨k, j, hkj, rfl, hP⟩ := hrel
          obtain ⟨hBr, r', t', hS, hK, g1, g2, g3⟩ := hP.out
          have HBr := Lib.hid hBr
          have HS := Lib.hid hS
          have HG := Lib.hid (And.intro g1 (And.intro g2 g3))
          have hm2 := har.out
          clear hBr hS g1 g2 g3 hP
          cases j with
          | zero =>
            obtain rfl : k = m := by omega
            cases k with
            | zero =>
              have hO : Hid (O = some (r', t')) := by rw [Hid, ← hK]; rfl
              clear hK
              go_wp2_with fail
              go_end0
              exact RdE.yes hO.out HBr.out HS.out
            | succ k =>
              have hk1 : (0 : Int) < ((k + 1 : Nat) : Int) := by omega
              cases r' with
              | nil =>
                have hO : Hid (O = none) := by rw [Hid, ← hK]; rfl
                have htn := Lib.hid (take_no B wr HS.out.c0)
                clear hK
                go_wp2_with fail
                refine htn.out.mono ?_
                rintro e w' ⟨rfl, rfl⟩
                exact ⟨rfl, RdE.no hO.out HBr.out⟩
              | cons x r2 =>
                have htr := Lib.hid (takeR HS.out HG.out.2.2)
                by_cases hx : x = 41
                · have hO : Hid (O = some (r2, t')) := by rw [Hid, ← hK, rdK, if_neg (by omega), exB, if_pos hx]; rfl
                  subst hx
                  clear hK
                  go_wp2_with fail
                  refine htr.out.mono ?_
                  rintro e w5 ⟨rfl, hR5, hb5⟩
                  go_wp2_with fail
                  go_end0
                  exact RdE.yes hO.out (HBr.out.trans hb5) hR5
                · have hO : Hid (O = none) := by rw [Hid, ← hK, rdK, if_neg (by omega), exB, if_neg hx]; rfl
                  have hne : ((x.toNat : Int) != 41) = true := by rw [bne, show (41 : Int) = ((41 : UInt8).toNat : Int) from rfl, u8_ne hx]; rfl
                  clear hK hx
                  go_wp2_with fail
                  refine htr.out.mono ?_
                  rintro e w5 ⟨rfl, hR5, hb5⟩
                  go_wp2_with fail
                  exact ⟨rfl, RdE.no hO.out (HBr.out.trans hb5)⟩
          | succ j =>
            obtain ⟨b, hb, hix⟩ := comma_at k j m hkj hm2
            have hkm : (k : Int) < m := by omega
            have hk2 : (k : Int) ≤ 2 := by omega
            cases r' with
            | nil =>
              have hO : Hid (O = none) := by rw [Hid, ← hK]; rfl
              have htn := Lib.hid (take_no B wr.drew HS.out.drew.c0)
              have HBd := Lib.hid (HBr.out.trans (drew_below B wr))
              clear hK hb
              go_wp2_with fail
              refine wp_region_any (by kernel_rfl) ?_
              change wpAny _ _ _ _ _ _ _ (World.drew _)
              refine wpAny_take (i := 0) (v := ?v1) rfl (by kernel_rfl) (by kernel_rfl) (by kernel_rfl) (fun _ _ _ h => h) (Or.inl ⟨by rfl, ?hy1⟩) ?rest1
              case hy1 => (intro W; (try simp only [List.getElem_toArray, List.getElem_cons_zero]); go_simp <;> with_reducible rfl)
              try simp only [Act.put, List.getElem_toArray, List.getElem_cons_zero, List.setIfInBounds_toArray, List.set_cons_zero, List.set_cons_succ]
              refine wpAny_take (i := 2) (v := ?v2) rfl (by kernel_rfl) (by kernel_rfl) (by kernel_rfl) (fun _ _ _ h => h) (Or.inl ⟨by rfl, ?hy2⟩) ?rest2
              case hy2 => (intro W; (try simp only [List.getElem_toArray, List.getElem_cons_zero, List.getElem_cons_succ]); go_simp <;> with_reducible rfl)
              try simp only [Act.put, List.getElem_toArray, List.getElem_cons_zero, List.getElem_cons_succ, List.setIfInBounds_toArray, List.set_cons_zero, List.set_cons_succ]
              refine wpAny_ready (rs := [1, 3]) (by kernel_rfl) (by simp) ?_
              refine AllReady.cons rfl (fun K0 hK0 => ?_) (AllReady.cons rfl (fun K0 hK0 => ?_) AllReady.nil)
              · (try simp only [List.getElem_toArray, List.getElem_cons_zero, List.getElem_cons_succ])
                go_simp
                go_at_call 186
                refine htn.out.mono ?_
                rintro e w' ⟨rfl, rfl⟩
                exact ⟨rfl, RdE.no hO.out HBd.out⟩
              · (try simp only [List.getElem_toArray, List.getElem_cons_zero, List.getElem_cons_succ])
                go_simp
                refine hK0 _ _ ?_
                clear hK0 K0
                try simp only [Act.put, List.getElem_toArray, List.getElem_cons_zero, List.getElem_cons_succ, List.setIfInBounds_toArray, List.set_cons_zero, List.set_cons_succ]
                refine wpAny_ready (rs := [1]) (by kernel_rfl) (by simp) ?_
                refine AllReady.cons rfl (fun K0 hK0 => ?_) AllReady.nil
                (try simp only [List.getElem_toArray, List.getElem_cons_zero, List.getElem_cons_succ])
                go_simp
                go_at_call 186
                refine htn.out.mono ?_
                rintro e w' ⟨rfl, rfl⟩
                exact ⟨rfl, RdE.no hO.out HBd.out⟩
            | cons x r2 =>
              have htr := Lib.hid (takeR HS.out.drew HG.out.2.2)
              have HBd := Lib.hid (HBr.out.trans (drew_below B wr))
              by_cases hx : x = b
              · have hK2 : Hid (((rd f r2 t').bind fun p => rdK f m j p.1 p.2) = O) := by
                  rw [Hid, ← hK, rdK, hb, exB, if_pos hx, Option.bind_some]
                have hih2 := Lib.hid fun W (h : RdS B W r2 t') => hih.out r2 t' W (by have h1 := hl1.out; have h2 := hff.out; have h3 := HG.out.1; omega) HG.out.2.1 (by have := HG.out.2.2; simp at this; omega) h
                subst hx
                clear hK hb
                go_wp2_with fail
                go_region_with (go_at_call 186; refine htr.out.mono ?_; rintro e w5 ⟨rfl, hR5, hb5⟩; have HR5 := Lib.hid hR5; have HB5 := Lib.hid (HBd.out.trans hb5); clear hR5 hb5)
                all_goals
                  go_wp2_with fail
                  refine (hih2.out _ HR5.out).mono ?_
                  rintro e w6 ⟨hb6, hm6⟩
                  have HB6 := Lib.hid (HB5.out.trans hb6)
                  cases hrd2 : rd f r2 t' with
                  | none =>
                    have hO : Hid (O = none) := by rw [Hid, ← hK2.out, hrd2]; rfl
                    rw [hrd2] at hm6
                    cases hm6
                    exact ⟨rfl, RdE.no hO.out HB6.out⟩
                  | some p =>
                    obtain ⟨r6, t6⟩ := p
                    have hO : Hid (rdK f m j r6 t6 = O) := by rw [Hid, ← hK2.out, hrd2]; rfl
                    have hlen := Lib.hid (rd_len HG.out.2.1 hrd2)
                    rw [hrd2] at hm6
                    obtain ⟨rfl, hR6⟩ := hm6
                    have HR6 := Lib.hid hR6
                    clear hR6 hb6 hrd2
                    go_wp2_with fail
                    go_roundw
                    case rel => exact ⟨k + 1, j, by omega, by go_num, HB6.out, r6, t6, HR6.out, hO.out, Nat.le_trans HG.out.1 hlen.out.1, hlen.out.2.1, by have h1 := hlen.out.2.2; have h2 := HG.out.2.2; simp at h2; omega⟩
                    case measure => simp [intOf]; omega
              · have hO : Hid (O = none) := by rw [Hid, ← hK, rdK, hb, exB, if_neg hx]; rfl
                have hne : ((x.toNat : Int) != (b.toNat : Int)) = true := by rw [bne, u8_ne hx]; rfl
                clear hK hb hx
                go_wp2_with fail
                go_region_with (go_at_call 186; refine htr.out.mono ?_; rintro e w5 ⟨rfl, hR5, hb5⟩; have HR5 := Lib.hid hR5; have HB5 := Lib.hid (HBd.out.trans hb5); clear hR5 hb5)
                all_goals
                  go_wp2_with fail
                  exact ⟨rfl, RdE.no hO.out HB5.out⟩

end Go.Proofs.Ytepddehodmljeaa
