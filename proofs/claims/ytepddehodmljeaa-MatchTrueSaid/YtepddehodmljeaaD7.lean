/- Walks: sub.Plain; haspref.plain, PlainOf. -/
import Derived.Test.YtepddehodmljeaaD6
namespace Go.Proofs.Ytepddehodmljeaa
open Go.RowKit Go.Maps

/-- Plain's error, and what comes. -/
def plT (t : List Int) : List Int := if chk t = 0 then smo [] t else []

set_option maxRecDepth 100000 in
theorem Plain_calls (t : List Int) (v : Value) (w : World) (hv : IsInts Any w v t) :
    Calls Try.prog 41 #[v] w fun e w' => ∃ x, e = .returned (.tuple #[x, .int .i64 (chk t)]) ∧ IsInts (Fr w.heap.size) w' x (plT t) ∧ Below w.heap.size w w' := by
  have h1 := Lib.hid (Check_calls t v w hv)
  obtain ⟨a, c, rfl⟩ := hv.isSlice
  by_cases h : chk t = 0
  · have hr : Hid (plT t = smo [] t) := by rw [Hid, plT, if_pos h]
    have hls : IsTerms Any (w.alloc (.cells #[.slice a t.length c] 24)) (.slice (some ⟨w.heap.size, 0, none⟩) 1 1) [t] :=
      ⟨by simp, .inr ⟨by simp, w.heap.size, 0, 1, rfl, by simp, trivial, by simp, [.slice a t.length c], ⟨_, [], rfl, rfl, ⟨_, rfl, hv.below (below_alloc _ _)⟩, rfl⟩, fun j u hj => by
        rw [Nat.zero_add, World.cell?_alloc_at _ _ _ _ rfl]; simpa using hj⟩⟩
    have hS := Lib.hid (Smooth_calls [t] _ (w.alloc (.cells #[.slice a t.length c] 24)) (by simp) (by simp) (fun x hx => by simp at hx; subst hx; exact ⟨signs_of_chk h, by have := len_of_chk h; omega⟩) hls)
    have hh := Lib.hid h
    clear hv hls
    go_enter Try.func41, Try.ntmps41
    go_wp2_with fail
    refine h1.out.mono ?_
    rintro e w' ⟨rfl, rfl⟩
    go_wp2_with fail
    refine hS.out.mono ?_
    rintro e w1 ⟨u, rfl, hO, hB⟩
    obtain ⟨g, c2, cur, rfl, hg, hgg, hcc⟩ := hO.at (by simp [smoL])
    obtain ⟨⟨x, hcx, hxr⟩, -⟩ := hO.cell (k := 0) (by simp [smoL])
    have hb2 := (below_alloc w (.cells #[.slice a t.length c] 24)).trans (hB.mono (by simp))
    have hX : Hid (IsInts (Fr w.heap.size) w1 x (smo [] t)) := by
      obtain ⟨x', e, hx'⟩ := hxr
      cases e
      exact hx'.mono (.weak fun b hb => by have : (w.alloc (.cells #[.slice a t.length c] 24)).heap.size ≤ b := hb.1; simp at this; show w.heap.size ≤ b; omega)
    have hB2 := Lib.hid hb2
    have hcx' : w1.cell? ⟨g, 0, none⟩ = some x := hcx
    clear hO hB hg hgg hcc hxr hb2 hcx h1 hS
    simp only [smoL, List.length_cons, List.length_nil]
    go_wp2_with fail
    go_ret2
    exact ⟨_, by rw [hh.out]; rfl, by rw [hr.out]; exact hX.out, hB2.out⟩
  · have hr : Hid (plT t = []) := by rw [Hid, plT, if_neg h]
    have h' : (chk t != 0) = true := by simpa using h
    clear hv h
    go_enter Try.func41, Try.ntmps41
    go_wp2_with fail
    refine h1.out.mono ?_
    rintro e w' ⟨rfl, rfl⟩
    clear h1
    go_wp2_with fail
    go_ret2
    exact ⟨_, rfl, by rw [hr.out]; exact .nil _ _, .refl _ _⟩

theorem smo_set {t : List Int} {k : Nat} (hk : k < t.length) : (smo [] (t.take k) ++ t.drop k).set k (nm (seenA [] (t.take k)) (nth t k)) = smo [] (t.take (k + 1)) ++ t.drop (k + 1) := by
  have hl : (smo [] (t.take k)).length = k := by rw [smo_length, List.length_take]; omega
  rw [List.set_append_right _ _ (by omega), hl, Nat.sub_self, drop_nth hk, List.set_cons_zero, take_nth hk, smo_append]
  simp [smo]
theorem smo_keep {t : List Int} {k : Nat} (hk : k < t.length) (h : 0 ≤ nth t k) : smo [] (t.take k) ++ t.drop k = smo [] (t.take (k + 1)) ++ t.drop (k + 1) := by
  rw [← smo_set hk]
  have hl : (smo [] (t.take k)).length = k := by rw [smo_length, List.length_take]; omega
  rw [List.set_append_right _ _ (by omega), hl, Nat.sub_self, drop_nth hk, List.set_cons_zero, nm, if_pos h]

/-- Where the sign was seen, of the first i that were. -/
def atI (seen : List Int) (n : Int) (i : Nat) : Int := if seen.idxOf n < i ∧ n ∈ seen then seen.idxOf n else -1

theorem ownsRow_at {w : World} {base : Nat} {e : TypeId} {size : Nat} {v : Value} {n : Nat} {xs : List Value} (h : w.ownsRow base e size v n xs) (hn : 0 < n) :
    ∃ G C, v = .slice (some ⟨G, 0, none⟩) n C ∧ base ≤ G ∧ G < w.heap.size := by
  rcases h.2 with ⟨_, h⟩ | ⟨g, cap, cur, h1, h2, h3, h4⟩
  · omega
  · exact ⟨g, cap, h1, h2, lt_of_block h3⟩

/-- Behind k signs: what has been seen, and the signs. -/
def PlRel (w : World) (t : List Int) (G C B : Nat) (k : Nat) (sv : Value) (wr : World) : Prop :=
  wr.ownsRow w.heap.size 3 1 (.slice (some ⟨G, 0, none⟩) t.length C) (smo [] (t.take k) ++ t.drop k).length ((smo [] (t.take k) ++ t.drop k).map (Value.int .i64)) ∧
  wr.ownsRow B 3 1 sv (seenA [] (t.take k)).length ((seenA [] (t.take k)).map (Value.int .i64)) ∧ Below w.heap.size w wr ∧ G < B ∧ B ≤ wr.heap.size

theorem PlRel.drewN {w : World} {t : List Int} {G C B k : Nat} {sv : Value} {wr : World} (h : PlRel w t G C B k sv wr) (m : Nat) : PlRel w t G C B k sv (wr.drewN m) :=
  ⟨h.1, h.2.1, h.2.2.1.trans (below_drewN _ _ _), h.2.2.2⟩

theorem PlRel.found {w : World} {t : List Int} {G C B k : Nat} {sv : Value} {wr w3 : World} (h : PlRel w t G C B k sv wr) (hG : w.heap.size ≤ G) (hk : k < t.length) (hn : nth t k < 0) (hin : nth t k ∈ seenA [] (t.take k))
    (ho : w3.ownsRow w.heap.size 3 1 (.slice (some ⟨G, 0, none⟩) t.length C) ((smo [] (t.take k) ++ t.drop k).set k (-1 - ((seenA [] (t.take k)).idxOf (nth t k) : Int))).length (((smo [] (t.take k) ++ t.drop k).set k (-1 - ((seenA [] (t.take k)).idxOf (nth t k) : Int))).map (Value.int .i64)))
    (hg : wr.grownBy w3 (some G)) : PlRel w t G C B (k + 1) sv w3 := by
  obtain ⟨r1, r2, r3, r4, r5⟩ := h
  have e1 : seenA [] (t.take (k + 1)) = seenA [] (t.take k) := by rw [seenA_take hk, adds, if_pos (.inr hin)]
  have e2 : nm (seenA [] (t.take k)) (nth t k) = -1 - ((seenA [] (t.take k)).idxOf (nth t k) : Int) := by rw [nm, if_neg (by omega), adds, if_pos (.inr hin)]
  rw [← e2, smo_set hk] at ho
  refine ⟨ho, by rw [e1]; exact ownsRow_keep r2 fun j hj => hg.block j (r2.lt j hj).2 (by have := (r2.lt j hj).1; simp; omega), r3.trans (below_of_grown hg r3.size fun j hj => by cases hj; exact hG), r4, Nat.le_trans r5 hg.size⟩

theorem PlRel.new {w : World} {t : List Int} {G C B k : Nat} {sv sv' : Value} {wr w2 w3 : World} {ob : Obj} (h : PlRel w t G C B k sv wr) (hG : w.heap.size ≤ G) (hk : k < t.length) (hn : nth t k < 0) (hin : nth t k ∉ seenA [] (t.take k))
    (hs : w2.ownsRow B 3 1 sv' (seenA [] (t.take k) ++ [nth t k]).length ((seenA [] (t.take k) ++ [nth t k]).map (Value.int .i64))) (hg2 : (wr.alloc ob).grownBy w2 sv.ownBlock)
    (ho : w3.ownsRow w.heap.size 3 1 (.slice (some ⟨G, 0, none⟩) t.length C) ((smo [] (t.take k) ++ t.drop k).set k (-1 - ((seenA [] (t.take k)).length : Int))).length (((smo [] (t.take k) ++ t.drop k).set k (-1 - ((seenA [] (t.take k)).length : Int))).map (Value.int .i64)))
    (hg : w2.grownBy w3 (some G)) : PlRel w t G C B (k + 1) sv' w3 := by
  obtain ⟨r1, r2, r3, r4, r5⟩ := h
  have e0 : adds (seenA [] (t.take k)) (nth t k) = seenA [] (t.take k) ++ [nth t k] := by rw [adds, if_neg (by rintro (h | h); omega; exact hin h)]
  have e1 : seenA [] (t.take (k + 1)) = seenA [] (t.take k) ++ [nth t k] := by rw [seenA_take hk, e0]
  have e2 : nm (seenA [] (t.take k)) (nth t k) = -1 - ((seenA [] (t.take k)).length : Int) := by rw [nm, if_neg (by omega), e0, idxOf_new hin]
  rw [← e2, smo_set hk] at ho
  have hz : wr.heap.size + 1 ≤ w2.heap.size := by have := hg2.size; simpa using this
  refine ⟨ho, by rw [e1]; exact ownsRow_keep hs fun j hj => hg.block j (hs.lt j hj).2 (by have := (hs.lt j hj).1; simp; omega), ?_, r4, by have := hg.size; omega⟩
  exact ((r3.alloc r3.size ob).trans (below_of_grown hg2 (by have := r3.size; simp; omega) fun j hj => by have := (r2.lt j hj).1; omega)).trans (below_of_grown hg (by have := r3.size; omega) fun j hj => by cases hj; exact hG)

set_option maxRecDepth 100000 in
set_option maxHeartbeats 2000000 in
theorem plain_calls (t : List Int) (v : Value) (w : World) (ht : Signs t) (hne : t ≠ []) (htl : t.length ≤ 1000) (hv : IsInts Any w v t) :
    Calls Try.prog 106 #[v] w fun e w' => ∃ x, e = .returned x ∧ IsInts (Fr w.heap.size) w' x (smo [] t) ∧ Below w.heap.size w w' := by
  obtain ⟨i3, hi, hz, hsz, hby⟩ := info_parts Try.inf3
  have hv0 := Lib.hid hv
  obtain ⟨hlen, ⟨rfl, -⟩ | ⟨-, b, o, c, rfl, -, -, hlt, hc⟩⟩ := hv
  · exact absurd rfl hne
  have hC := Lib.hid hc
  have hS := Lib.hid ht
  clear hc ht
  have hO0 : Hid ((w.alloc (.cells #[] 3)).ownsRow w.heap.size 3 1 (.slice (some ⟨w.heap.size, 0, none⟩) 0 0) ([] : List Int).length (([] : List Int).map (Value.int .i64))) := World.ownsRow_made w #[] 0 (Nat.le_refl _) (by simp [maxLen]) (by simp)
  have hI0 : Hid (IsInts Any (w.alloc (.cells #[] 3)) (.slice (some ⟨b, o, none⟩) t.length c) t) := hv0.out.below (below_alloc _ _)
  go_enter Try.func106, Try.ntmps106
  have tok1 : True := trivial
  go_wp2_with (at_builtin; have _t := tok1; refine app_ints _ _ 24 rfl rfl w.heap.size i3 Try.underlying24 hi hz hsz hby hO0.out hI0.out ?c1 ?c2 ?c3; rotate_left 2; intro v' w1 hown1 hb1 hg1 _; clear tok1; rw [List.nil_append] at hown1; obtain ⟨G, C, rfl, hG1, hG2⟩ := ownsRow_at hown1 (List.length_pos_iff.2 hne))
  case c1 => simp; omega
  case c2 => simp
  have hst : Hid (PlRel w t G C w1.heap.size 0 (.slice none 0 0) w1) :=
    ⟨by simpa [smo] using hown1, World.ownsRow_nil _ _ _ _, ((below_alloc w _).trans (hb1.mono (Nat.le_refl _))), hG2, Nat.le_refl _⟩
  clear hown1 hb1 hg1
  go_loopw [3, 5] (fun sv i wr => ∃ k : Nat, k ≤ t.length ∧ i = .int .i64 k ∧ Hid (PlRel w t G C w1.heap.size k sv wr)) (fun _ i _ => t.length - (intOf i).toNat)
  case atStart => exact ⟨0, by omega, rfl, hst.out⟩
  case round =>
    clear hst
    obtain ⟨k, hk, rfl, hR⟩ := hrel
    by_cases hlt' : k < t.length
    · have hcell : wr.cell? ⟨b, o + k, none⟩ = some (.int .i64 (nth t k)) := (hR.out.2.2.1.cell (p := ⟨b, o + k, none⟩) hlt).trans (hC.out k hlt')
      by_cases h0 : 0 ≤ nth t k
      · go_wp2_with fail
        go_roundw
        case rel =>
          refine ⟨k + 1, by omega, by go_num, ?_⟩
          obtain ⟨r1, r2, r3⟩ := hR.out
          have e1 : seenA [] (t.take (k + 1)) = seenA [] (t.take k) := by rw [seenA_take hlt', adds, if_pos (.inl h0)]
          refine ⟨by rw [← smo_keep hlt' h0]; exact r1, by rw [e1]; exact r2, r3⟩
        case measure => simp [intOf]; omega
      · have hneg : nth t k < 0 := by omega
        obtain ⟨hn1, hn2⟩ := hS.out _ (nth_mem hlt')
        have hSl : (seenA [] (t.take k)).length ≤ 1000 := by
          have h1 := seenA_len [] (t.take k)
          have h2 : (t.take k).length ≤ 1000 := by simp; omega
          simp only [List.length_nil] at h1; omega
        have hSnd := Lib.hid (seenA_nodup (seen := []) (by simp) (t.take k))
        have hsizes := hR.out.2.2.2.2
        clear h0
        by_cases hse : seenA [] (t.take k) = []
        · have hin : Hid (nth t k ∉ seenA [] (t.take k)) := by rw [Hid, hse]; simp
          obtain ⟨a0, c0, hsv⟩ := (ints_of_own hR.out.2.1 (by omega)).isSlice
          rw [hse] at hsv
          have hR2 := hR
          have hX := Lib.hid (ints_one wr (nth t k) 3).any
          have hsel := Lib.hid hse
          have hl0 : (seenA [] (t.take k)).length = 0 := by rw [hse]; rfl
          clear hse
          obtain rfl := hsv
          simp only [List.length_nil]
          go_wp2_with fail
          refine wp_loop_rounds 1 ?_
          rw [rounds_succ]
          go_wp2_with (first
            | (at_builtin; refine app_ints _ _ 23 rfl rfl w1.heap.size i3 Try.underlying23 hi hz hsz hby (hR2.out.2.1.alloc _) hX.out ?x1 ?x2 ?x3; rotate_left 2; intro sv' w2 hown2 hb2 hg2 _)
            | ((with_reducible show wpList _ _ _ (Oper.mk none (Op.store _ _ _) _ _ _ _ :: _) _ _); refine store_ints _ _ rfl rfl rfl i3 hi hsz w.heap.size G k t.length C (smo [] (t.take k) ++ t.drop k) ?x4 rfl (ownsRow_keep hR2.out.1 ?x5) ?x6 (-1) rfl ?x7; rotate_left 3; intro w3 hown3 hg3 hz3))
          case x1 => simp only [List.length_cons, List.length_nil]; omega
          case x2 => have := hR2.out.2.2.2.2; simp; omega
          case x4 => rw [List.length_append, smo_length, List.length_take, List.length_drop]; omega
          case x5 =>
            intro j hj
            simp only [Value.ownBlock, Option.some.injEq] at hj
            subst hj
            have r5 := hR2.out.2.2.2.2
            rw [hg2.block _ (by simp; omega) (fun e => by have := (hR2.out.2.1.lt _ e.symm).1; have := hR2.out.2.2.2.1; omega), Below.heap_alloc _ _ _ (by omega)]
          case x6 => rw [List.length_append, smo_length, List.length_take, List.length_drop]; omega
          go_roundw
          case rel => exact ⟨k + 1, by omega, by go_num, hR2.out.new hG1 hlt' hneg hin.out hown2 hg2 (by have h := hown3; rw [hl0]; simpa using h) hg3⟩
          case measure => simp [intOf]; omega
        · obtain ⟨wo, rfl⟩ : ∃ wo : World, wo = wr := ⟨_, rfl⟩
          obtain ⟨g, c0, rfl, hg1, hg2⟩ := ownsRow_at hR.out.2.1 (List.length_pos_iff.2 hse)
          have hcs : Hid (∀ j, j < (seenA [] (t.take k)).length → wo.cell? ⟨g, j, none⟩ = some (.int .i64 (nth (seenA [] (t.take k)) j))) := fun j hj => by
            rw [hR.out.2.1.cellAt j (by omega), List.getElem?_map, List.getElem?_eq_getElem hj, nth_eq hj]; rfl
          clear hse
          go_wp2_with fail
          go_loopw [6, 7] (fun at_ i wx => ∃ j : Nat, j ≤ (seenA [] (t.take k)).length ∧ i = .int .i64 j ∧ at_ = .int .i64 (atI (seenA [] (t.take k)) (nth t k) j) ∧ Hid (∃ m, wx = wo.drewN m)) (fun _ i _ => (seenA [] (t.take k)).length - (intOf i).toNat)
          case atStart => exact ⟨0, by omega, rfl, by simp [atI], 0, rfl⟩
          case round =>
            obtain ⟨j, hj, rfl, rfl, hW⟩ := hrel
            have hcx : wr.cell? ⟨b, o + k, none⟩ = some (.int .i64 (nth t k)) := by obtain ⟨m, rfl⟩ := hW.out; exact hcell
            have hR2 : Hid (PlRel w t G C w1.heap.size k (.slice (some ⟨g, 0, none⟩) (seenA [] (t.take k)).length c0) wr) := by obtain ⟨m, rfl⟩ := hW.out; exact hR.out.drewN m
            have hsx : wo.heap.size ≤ wr.heap.size := by obtain ⟨m, rfl⟩ := hW.out; exact Nat.le_refl _
            by_cases hjl : j < (seenA [] (t.take k)).length
            · have hc3 : wr.cell? ⟨g, j, none⟩ = some (.int .i64 (nth (seenA [] (t.take k)) j)) := by obtain ⟨m, rfl⟩ := hW.out; exact hcs.out j hjl
              have hij : (j : Int) < (seenA [] (t.take k)).length := by omega
              have hik : (k : Int) < t.length := by omega
              have hidx : Hid (nth (seenA [] (t.take k)) j = nth t k ↔ (seenA [] (t.take k)).idxOf (nth t k) = j ∧ nth t k ∈ seenA [] (t.take k)) := by
                constructor
                · intro e
                  have hm : nth t k ∈ seenA [] (t.take k) := by rw [← e]; exact nth_mem hjl
                  refine ⟨?_, hm⟩
                  have hil := List.idxOf_lt_length_of_mem hm
                  have h1 : (seenA [] (t.take k))[(seenA [] (t.take k)).idxOf (nth t k)] = nth t k := List.getElem_idxOf hil
                  rw [nth_eq hjl] at e
                  rcases Nat.lt_trichotomy ((seenA [] (t.take k)).idxOf (nth t k)) j with hlt | h | hlt
                  · exact absurd (h1.trans e.symm) ((List.pairwise_iff_getElem.1 hSnd.out) _ _ hil hjl hlt)
                  · exact h
                  · exact absurd (e.trans h1.symm) ((List.pairwise_iff_getElem.1 hSnd.out) _ _ hjl hil hlt)
                · rintro ⟨e, hm⟩
                  have hil := List.idxOf_lt_length_of_mem hm
                  rw [nth_eq hjl]
                  have h1 : (seenA [] (t.take k))[(seenA [] (t.take k)).idxOf (nth t k)] = nth t k := List.getElem_idxOf hil
                  simpa [e] using h1
              cases heq : (nth (seenA [] (t.take k)) j == nth t k)
              · have hat : Hid (atI (seenA [] (t.take k)) (nth t k) (j + 1) = atI (seenA [] (t.take k)) (nth t k) j) := by
                  have hne2 : ¬ nth (seenA [] (t.take k)) j = nth t k := by simpa using heq
                  have := mt hidx.out.2 hne2
                  unfold Hid atI
                  by_cases hm : nth t k ∈ seenA [] (t.take k)
                  · have : (seenA [] (t.take k)).idxOf (nth t k) ≠ j := fun e => this ⟨e, hm⟩
                    by_cases h1 : (seenA [] (t.take k)).idxOf (nth t k) < j
                    · rw [if_pos ⟨by omega, hm⟩, if_pos ⟨h1, hm⟩]
                    · rw [if_neg (by rintro ⟨h, _⟩; omega), if_neg (by rintro ⟨h, _⟩; omega)]
                  · rw [if_neg (by rintro ⟨_, h⟩; exact hm h), if_neg (by rintro ⟨_, h⟩; exact hm h)]
                go_wp2_with fail
                go_quiet (fail)
                go_wp2_with fail
                go_roundw
                case rel => exact ⟨j + 1, by omega, by go_num, by rw [hat.out], by obtain ⟨m, rfl⟩ := hW.out; exact ⟨_, drewN_add _ _ _⟩⟩
                case measure => simp [intOf]; omega
              · have hat : Hid (atI (seenA [] (t.take k)) (nth t k) (j + 1) = j) := by
                  obtain ⟨e, hm⟩ := hidx.out.1 (by simpa using heq)
                  unfold Hid atI
                  rw [if_pos ⟨by omega, hm⟩, e]
                go_wp2_with fail
                go_quiet (fail)
                go_wp2_with fail
                go_roundw
                case rel => exact ⟨j + 1, by omega, by go_num, by rw [hat.out], by obtain ⟨m, rfl⟩ := hW.out; exact ⟨_, drewN_add _ _ _⟩⟩
                case measure => simp [intOf]; omega
            · have : j = (seenA [] (t.take k)).length := by omega
              subst this
              by_cases hin : nth t k ∈ seenA [] (t.take k)
              · have hil := List.idxOf_lt_length_of_mem hin
                have hat : atI (seenA [] (t.take k)) (nth t k) (seenA [] (t.take k)).length = ((seenA [] (t.take k)).idxOf (nth t k) : Int) := by
                  unfold atI; rw [if_pos ⟨hil, hin⟩]
                have hin := Lib.hid hin
                go_wp2_with ((with_reducible show wpList _ _ _ (Oper.mk none (Op.store _ _ _) _ _ _ _ :: _) _ _); refine store_ints _ _ rfl rfl rfl i3 hi hsz w.heap.size G k t.length C (smo [] (t.take k) ++ t.drop k) ?z4 rfl hR2.out.1 ?z6 (-1 - ((seenA [] (t.take k)).idxOf (nth t k) : Int)) rfl ?z7; rotate_left 2; intro w3 hown3 hg3 hz3)
                case z4 => rw [List.length_append, smo_length, List.length_take, List.length_drop]; omega
                case z6 => rw [List.length_append, smo_length, List.length_take, List.length_drop]; omega
                go_roundw
                case rel => exact ⟨k + 1, by omega, by go_num, hR2.out.found hG1 hlt' hneg hin.out hown3 hg3⟩
                case measure => simp [intOf]; omega
              · have hat : atI (seenA [] (t.take k)) (nth t k) (seenA [] (t.take k)).length = -1 := by
                  unfold atI; rw [if_neg (by rintro ⟨_, h⟩; exact hin h)]
                have hin := Lib.hid hin
                have hX := Lib.hid (ints_one wr (nth t k) 3).any
                go_wp2_with (first
                  | (at_builtin; refine app_ints _ _ 23 rfl rfl w1.heap.size i3 Try.underlying23 hi hz hsz hby (hR2.out.2.1.alloc _) hX.out ?y1 ?y2 ?y3; rotate_left 2; intro sv' w2 hown2 hb2 hg2 _)
                  | ((with_reducible show wpList _ _ _ (Oper.mk none (Op.store _ _ _) _ _ _ _ :: _) _ _); refine store_ints _ _ rfl rfl rfl i3 hi hsz w.heap.size G k t.length C (smo [] (t.take k) ++ t.drop k) ?y4 rfl (ownsRow_keep hR2.out.1 ?y5) ?y6 (-1 - ((seenA [] (t.take k)).length : Int)) rfl ?y7; rotate_left 3; intro w3 hown3 hg3 hz3))
                case y1 => simp only [List.length_cons, List.length_nil]; omega
                case y2 => have := hR2.out.2.2.2.2; simp; omega
                case y4 => rw [List.length_append, smo_length, List.length_take, List.length_drop]; omega
                case y5 =>
                  intro j hj
                  simp only [Value.ownBlock, Option.some.injEq] at hj
                  subst hj
                  have r5 := hR2.out.2.2.2.2
                  rw [hg2.block _ (by simp; omega) (fun e => by have := (hR2.out.2.1.lt _ e.symm).1; have := hR2.out.2.2.2.1; omega), Below.heap_alloc _ _ _ (by omega)]
                case y6 => rw [List.length_append, smo_length, List.length_take, List.length_drop]; omega
                go_roundw
                case rel => exact ⟨k + 1, by omega, by go_num, hR2.out.new hG1 hlt' hneg hin.out hown2 hg2 hown3 hg3⟩
                case measure => simp [intOf]; omega
    · have : k = t.length := by omega
      subst this
      go_wp2_with fail
      go_ret
      obtain ⟨r1, r2, r3, _⟩ := hR.out
      refine ⟨_, rfl, ?_, r3⟩
      have := ints_of_own r1 (by simp [smo_length]; omega)
      simpa using this

theorem PlainOf_calls (t : List Int) (v : Value) (w : World) (hv : IsInts Any w v t) :
    Calls Try.prog 43 #[v] w fun e w' => ∃ x, e = .returned (.tuple #[x, .int .i64 (chk t)]) ∧ IsInts (Fr w.heap.size) w' x (plT t) ∧ Below w.heap.size w w' := by
  have h1 := Lib.hid (TermError_calls t v w hv)
  obtain ⟨a, c, rfl⟩ := hv.isSlice
  by_cases h : chk t = 0
  · have hr : Hid (plT t = smo [] t) := by rw [Hid, plT, if_pos h]
    have hS := Lib.hid (plain_calls t _ w (signs_of_chk h) (ne_of_chk h) (by have := len_of_chk h; omega) hv)
    have hh := Lib.hid h
    clear hv
    go_enter Try.func43, Try.ntmps43
    go_wp2_with fail
    refine h1.out.mono ?_
    rintro e w' ⟨rfl, rfl⟩
    go_wp2_with fail
    refine hS.out.mono ?_
    rintro e w1 ⟨u, rfl, hX, hB⟩
    go_wp2_with fail
    go_ret2
    exact ⟨_, by rw [hh.out]; rfl, by rw [hr.out]; exact hX, hB⟩
  · have hr : Hid (plT t = []) := by rw [Hid, plT, if_neg h]
    have h' : (chk t != 0) = true := by simpa using h
    clear hv h
    go_enter Try.func43, Try.ntmps43
    go_wp2_with fail
    refine h1.out.mono ?_
    rintro e w' ⟨rfl, rfl⟩
    clear h1
    go_wp2_with fail
    go_ret2
    exact ⟨_, rfl, by rw [hr.out]; exact .nil _ _, .refl _ _⟩

end Go.Proofs.Ytepddehodmljeaa
