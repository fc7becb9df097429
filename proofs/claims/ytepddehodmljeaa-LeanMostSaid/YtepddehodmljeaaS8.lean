/- Walks: SortStableFunc; what it makes of leans. -/
import Derived.Test.YtepddehodmljeaaS7
import Derived.Test.YtepddehodmljeaaL2
namespace Go.Proofs.Ytepddehodmljeaa
open Go.Shelf Go.RowKit Go.Lib Go.Sort

theorem lift_perm {α β : Type} {f : α → β} {l l' : List β} (h : l.Perm l') : ∀ P : List α, P.map f = l' → ∃ P' : List α, P'.Perm P ∧ P'.map f = l := by
  induction h with
  | nil => intro P hP; exact ⟨P, .refl _, hP⟩
  | cons x _ ih =>
    intro P hP
    cases P with
    | nil => cases hP
    | cons p P =>
      simp only [List.map_cons, List.cons.injEq] at hP
      obtain ⟨P', h1, h2⟩ := ih P hP.2
      exact ⟨p :: P', h1.cons p, by rw [List.map_cons, h2, hP.1]⟩
  | swap x y l =>
    intro P hP
    match P, hP with
    | p :: q :: P, hP =>
      simp only [List.map_cons, List.cons.injEq] at hP
      exact ⟨q :: p :: P, .swap p q P, by rw [List.map_cons, List.map_cons, hP.1, hP.2.1, hP.2.2]⟩
  | trans _ _ ih1 ih2 =>
    intro P hP
    obtain ⟨P1, h1, h2⟩ := ih2 P hP
    obtain ⟨P2, h3, h4⟩ := ih1 P1 h2
    exact ⟨P2, h3.trans h1, h4⟩

theorem lnf_get : ∀ (D : List L4) (t : Nat), t < D.length * 4 → (D.flatMap encL)[t]? = some ((encL D[t / 4]!)[t % 4]!)
  | [], t, h => by simp at h
  | x :: D, t, h => by
    rw [List.flatMap_cons]
    by_cases h4 : t < 4
    · rw [List.getElem?_append_left (by rw [encL_len]; exact h4), show t / 4 = 0 by omega, show t % 4 = t by omega]
      rcases (by omega : t = 0 ∨ t = 1 ∨ t = 2 ∨ t = 3) with rfl | rfl | rfl | rfl <;> rfl
    · obtain ⟨s, rfl⟩ : ∃ s, t = s + 4 := ⟨t - 4, by omega⟩
      rw [List.getElem?_append_right (by rw [encL_len]; omega), encL_len, Nat.add_sub_cancel, lnf_get D s (by simp at h; omega), show (s + 4) / 4 = s / 4 + 1 by omega, show (s + 4) % 4 = s % 4 by omega]
      simp
theorem lnf_len (D : List L4) : (D.flatMap encL).length = D.length * 4 := by
  induction D with
  | nil => rfl
  | cons x D ih => rw [List.flatMap_cons, List.length_append, ih, encL_len, List.length_cons]; omega

/-- The cells of a row of leans. -/
theorem elems_enc {S : Blk} {w : World} : ∀ {ls : List Ln} {cs : List Value}, Elems 4 LeanR S w cs ls → ∃ ps : List (L4 × Ln), ps.map (·.2) = ls ∧ cs = (ps.map (·.1)).flatMap encL ∧ ∀ p ∈ ps, LeanR S w (encL p.1) p.2
  | [], cs, h => ⟨[], rfl, h, fun p hp => by cases hp⟩
  | x :: ls, cs, ⟨us, cs', _, h2, ⟨u, v, h3, h4, h5⟩, h6⟩ => by
    obtain ⟨ps, e1, e2, e3⟩ := elems_enc h6
    obtain ⟨ua, uc, rfl⟩ := IsRow.isSlice h4
    obtain ⟨va, vc, rfl⟩ := h5.isSlice
    refine ⟨(((x.1 : Int), (x.2.1 : Int), (ua, x.2.2.1.length, uc), (va, x.2.2.2.length, vc)), x) :: ps, by rw [List.map_cons, e1], by rw [h2, h3, e2]; rfl, fun p hp => ?_⟩
    rcases List.mem_cons.1 hp with rfl | hp
    · exact ⟨_, _, rfl, h4, h5⟩
    · exact e3 p hp
theorem enc_elems {S : Blk} {w : World} : ∀ {ps : List (L4 × Ln)}, (∀ p ∈ ps, LeanR S w (encL p.1) p.2) → Elems 4 LeanR S w ((ps.map (·.1)).flatMap encL) (ps.map (·.2))
  | [], _ => rfl
  | p :: ps, h => ⟨encL p.1, (ps.map (·.1)).flatMap encL, rfl, rfl, h p (by simp), enc_elems fun q hq => h q (by simp [hq])⟩

/-- Beside the row nothing has turned. -/
theorem SWK_keeps {d : Array L4} {w W : World} {g : Nat} (h : SWK encL 4 w g 0 d W) : Keeps (fun b => b = g) w W := by
  obtain ⟨m, os, rfl⟩ := h
  refine ⟨rfl, rfl, rfl, ?_, fun k hk hm => ?_⟩
  · exact size_sortWorldK_c encL 4 w g 0 m d os
  · show ((w.heap.modify g _) ++ os)[k]? = w.heap[k]?
    rw [Array.getElem?_append_left (by rw [Array.size_modify]; exact hk), Array.getElem?_modify]
    exact if_neg fun e => hm e.symm

theorem lnf_hold {w : World} {base g n cap : Nat} {D : List L4} (h : w.ownsRow base 111 4 (.slice (some ⟨g, 0, none⟩) n cap) n (D.flatMap encL)) (hn : D.length = n) : HoldsK encL 4 w g 0 D.toArray := by
  intro j hj
  rw [size_flatK] at hj
  have hj' : j < D.length * 4 := by simpa using hj
  have h1 := World.ownsRow.cellAt h j (by omega)
  rw [lnf_get D j hj'] at h1
  refine ⟨?_, by rw [Nat.zero_add]; exact World.ownsRow.frozenAt h j⟩
  rw [Nat.zero_add, h1, get_flatK encL 4 _ j hj]
  simp
theorem lnf_cells {w : World} {g : Nat} {d : Array L4} (h : HoldsK encL 4 w g 0 d) : ∀ j u, (d.toList.flatMap encL)[j]? = some u → w.cell? ⟨g, 0 + j, none⟩ = some u := by
  obtain ⟨D⟩ := d
  have e : ∀ i : Nat, (⟨D⟩ : Array L4)[i]! = D[i]! := fun i => by simp
  intro j u hj
  have hlt : j < (⟨D⟩ : Array L4).toList.length * 4 := by
    rw [← lnf_len]
    exact (List.getElem?_eq_some_iff.1 hj).1
  rw [lnf_get _ j hlt] at hj
  have hlt' : j < (⟨D⟩ : Array L4).size * 4 := hlt
  have h1 := (h j (by rw [size_flatK]; exact hlt')).1
  rw [get_flatK encL 4 _ j hlt', e] at h1
  rw [h1, ← hj]
  rfl

set_option maxRecDepth 100000 in
theorem ins_none (a : Option Addr) (c : Nat) (fv : Value) (w : World) : Calls Try.prog 209 #[.slice a 0 c, .int .i64 0, .int .i64 0, fv] w fun e w' => e = .returned (.tuple #[]) ∧ w' = w := by
  go_enter Try.func209, Try.ntmps209
  go_wp2_with fail
  refine wp_loop_rounds 1 ?_
  rw [rounds_succ]
  go_wp2_with fail
  go_end0
  exact ⟨rfl, rfl⟩
set_option maxRecDepth 100000 in
theorem stable_none (a : Option Addr) (c : Nat) (fv : Value) (w : World) : Calls Try.prog 195 #[.slice a 0 c, .int .i64 0, fv] w fun e w' => e = .returned (.tuple #[]) ∧ w' = w := by
  have hI := Lib.hid fun W => ins_none a c fv W
  go_enter Try.func195, Try.ntmps195
  go_wp2_with fail
  refine wp_loop_rounds 1 ?_
  rw [rounds_succ]
  go_wp2_with fail
  refine (hI.out _).mono ?_
  rintro e w' ⟨rfl, rfl⟩
  go_wp2_with fail
  refine wp_loop_rounds 1 ?_
  rw [rounds_succ]
  go_wp2_with fail
  go_end0
  exact ⟨rfl, rfl⟩
set_option maxRecDepth 100000 in
theorem sort_none (a : Option Addr) (c : Nat) (fv : Value) (w : World) : Calls Try.prog 163 #[.slice a 0 c, fv] w fun e w' => e = .returned (.tuple #[]) ∧ w' = w := by
  have hI := Lib.hid fun W => stable_none a c fv W
  go_enter Try.func163, Try.ntmps163
  go_wp2_with fail
  refine (hI.out _).mono ?_
  rintro e w' ⟨rfl, rfl⟩
  go_wp2_with fail
  go_end0
  exact ⟨rfl, rfl⟩

def StableT : Prop := ∀ (g cap : Nat) (d : Array L4) (w : World), HoldsK encL 4 w g 0 d → g < w.heap.size → d.size ≤ 1000000 →
  Calls Try.prog 195 #[.slice (some ⟨g, 0, none⟩) d.size cap, .int .i64 d.size, .func (.func 164) #[] #[]] w fun e w' => e = .returned (.tuple #[]) ∧ ∃ d', Prm d d' ∧ ((d.size < 20 ∧ Srt cfL 0 d.size d) → d' = d) ∧ SWK encL 4 w g 0 d' w'

set_option maxRecDepth 100000 in
theorem sort_of (hst : StableT) : SortA := by
  intro ls base v w hO hl
  obtain ⟨cs, he, hr⟩ := hO
  by_cases h0 : ls = []
  · subst h0
    obtain ⟨a, c, rfl, hac⟩ : ∃ a c, v = .slice a 0 c ∧ (a = none → c = 0) := by
      rcases hr.2 with ⟨rfl, -⟩ | ⟨g, cap, cur, rfl, -⟩
      · exact ⟨none, 0, rfl, fun _ => rfl⟩
      · exact ⟨_, cap, rfl, fun h => by cases h⟩
    refine (sort_none a c _ w).mono ?_
    rintro e w' ⟨rfl, rfl⟩
    exact ⟨rfl, .refl _ _, [], .refl _, fun _ => rfl, by simp, .inl ⟨rfl, a, c, rfl, hac⟩⟩
  · obtain ⟨ps, e1, e2, e3⟩ := elems_enc he
    have hn0 : 0 < ls.length := List.length_pos_iff.2 h0
    obtain ⟨g, cap, rfl⟩ : ∃ g cap, v = .slice (some ⟨g, 0, none⟩) ls.length cap := by
      rcases hr.2 with ⟨-, h⟩ | ⟨g, cap, cur, rfl, -⟩
      · omega
      · exact ⟨g, cap, rfl⟩
    have hlen : (ps.map (·.1)).length = ls.length := by rw [← e1, List.length_map, List.length_map]
    subst e2
    have hH := lnf_hold hr hlen
    obtain ⟨hg1, hg2⟩ := hr.lt g rfl
    have hcap : ls.length ≤ cap := by
      rcases hr.2 with ⟨h, -⟩ | ⟨g', cap', cur, h, -, -, h2, -⟩
      · cases h
      · cases h; exact h2
    have hds : (ps.map (·.1)).toArray.size = ls.length := by simpa using hlen
    have hC := hst g cap (ps.map (·.1)).toArray w hH hg2 (by omega)
    rw [hds] at hC
    have hSr : Hid ((∀ i (h : i + 1 < ls.length), ls[i].2.1 ≤ ls[i + 1].2.1) → Srt cfL 0 ls.length (ps.map (·.1)).toArray) := by
      have hget : ∀ i (h : i < ls.length), ((ps.map fun p : L4 × Ln => p.1).toArray[i]!).2.1 = ((ls[i].2.1 : Nat) : Int) := by
        subst e1
        intro i h
        have hi : i < ps.length := by simpa using h
        obtain ⟨u, v, h1, -, -⟩ := e3 _ (List.getElem_mem hi)
        have h2 : (ps.map fun p : L4 × Ln => p.1).toArray[i]! = (ps[i]).1 := by simp [hi]
        rw [h2]
        simp only [encL, List.cons.injEq, Value.int.injEq, true_and] at h1
        simpa using h1.2.1
      intro hs i _ hi
      have h1 := hs i hi
      unfold cfL Lib.compareInt
      rw [hget (i + 1) hi, hget i (by omega), if_neg (by omega)]
      split <;> omega
    have HC := Lib.hid hC
    clear hC
    go_enter Try.func163, Try.ntmps163
    go_wp2_with fail
    refine HC.out.mono ?_
    rintro e w' ⟨rfl, d', hp, hsame, hS⟩
    have HF := Lib.hid (And.intro hp (And.intro hsame hS))
    clear hp hsame hS HC
    go_wp2_with fail
    go_end0
    obtain ⟨hp, hsame, hS⟩ := HF.out
    have hk := SWK_keeps hS
    have hlt : g < w'.heap.size := Nat.lt_of_lt_of_le hg2 hk.size
    have hH' := hS.holds hg2 hH hp.size
    have hperm : d'.toList.Perm (ps.map (·.1)) := by
      have h1 := hp.2.2
      have e4 : (ps.map (·.1)).toArray.extract 0 (ps.map (·.1)).toArray.size = (ps.map (·.1)).toArray := Array.extract_size ..
      have e5 : d'.extract 0 (ps.map (·.1)).toArray.size = d' := by rw [← hp.size]; exact Array.extract_size ..
      rw [e4, e5] at h1
      simpa using h1
    have key : ∃ P' : List (L4 × Ln), P'.Perm ps ∧ P'.map (·.1) = d'.toList ∧ ((ls.length < 20 ∧ ∀ i (h : i + 1 < ls.length), ls[i].2.1 ≤ ls[i + 1].2.1) → P' = ps) := by
      by_cases hq : ls.length < 20 ∧ ∀ i (h : i + 1 < ls.length), ls[i].2.1 ≤ ls[i + 1].2.1
      · have h5 := hsame ⟨hq.1, hSr.out hq.2⟩
        exact ⟨ps, .refl _, by rw [h5], fun _ => rfl⟩
      · obtain ⟨P', h5, h6⟩ := lift_perm hperm ps rfl
        exact ⟨P', h5, h6, fun h => absurd h hq⟩
    obtain ⟨P', k1, k2, k3⟩ := key
    refine ⟨rfl, ⟨hk.os, hk.tape, hk.output, hk.size, fun b hb => ?_⟩, P'.map (·.2), ?_, fun h => by rw [k3 h, e1], ?_⟩
    · by_cases hbw : b < w.heap.size
      · exact hk.block b hbw (by omega)
      · omega
    · have := k1.map (fun p : L4 × Ln => p.2)
      rwa [e1] at this
    · have hl2 : (P'.map (·.2)).length = ls.length := by rw [List.length_map, k1.length_eq, ← e1, List.length_map]
      refine ⟨by rw [hl2]; omega, .inr ⟨fun h => by rw [h] at hl2; simp at hl2; omega, g, 0, cap, by rw [hl2], by rw [hl2]; exact hcap, hg1, hlt, (P'.map (·.1)).flatMap encL, enc_elems fun p hp => ?_, ?_⟩⟩
      · exact LeanR.ok _ _ _ _ _ _ (e3 p (k1.mem_iff.1 hp)) ⟨hk.size, fun b hb hl => ⟨hb.1, hk.block b hl fun e => hb.2 (by rw [e]; rfl)⟩⟩
      · rw [k2]
        exact lnf_cells hH'

theorem stableT : StableT := fun g cap d w hH hg hd =>
  stable_calls (P := Try.prog) (enc := encL) (k := 4) (off := 0) spT Try.func221 Try.func217 Try.func210 Try.func209 Try.func195 cfL 164 (enters_of Try.func164 (by kernel_rfl) rfl) (cmp_lays g 0 d.size w) ⟨encL_len, encL_one, hH, hg⟩ hd w (SWK.start hH)
theorem sortA : SortA := sort_of stableT

end Go.Proofs.Ytepddehodmljeaa
