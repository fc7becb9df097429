/- Walks: sub.Smooth, Plain; haspref.plain, PlainOf. -/
import Derived.Test.YtepddehodmljeaaA3
import Derived.Test.YtepddehodmljeaaD5
import Derived.Test.YtepddehodmljeaaPc
namespace Go.Proofs.Ytepddehodmljeaa
open Go.RowKit Go.Maps

/-- What the map of names holds. -/
def entries (seen : List Int) : List (Value × Value) := seen.zipIdx.map fun p => (.int .i64 p.1, .int .i64 (-1 - (p.2 : Int)))
theorem entries_append (seen : List Int) (n : Int) : entries (seen ++ [n]) = entries seen ++ [(.int .i64 n, .int .i64 (-1 - (seen.length : Int)))] := by
  simp [entries, List.zipIdx_append]
theorem entries_len (seen : List Int) : (entries seen).length = seen.length := by simp [entries]
theorem entries_abs {seen : List Int} {n : Int} (h : n ∉ seen) : ∀ p ∈ entries seen, p.1 ≠ .int .i64 n := by
  intro p hp e
  obtain ⟨q, hq, rfl⟩ := List.mem_map.1 hp
  simp only [Value.int.injEq, true_and] at e
  have := (List.mem_zipIdx hq).2.2
  exact h (by rw [← e, this]; exact List.getElem_mem _)
theorem entries_pres {seen : List Int} {n : Int} (h : n ∈ seen) : (.int .i64 n, .int .i64 (-1 - (seen.idxOf n : Int))) ∈ entries seen := by
  refine List.mem_map.2 ⟨(n, seen.idxOf n), ?_, rfl⟩
  have hl := List.idxOf_lt_length_of_mem h
  rw [List.mk_mem_zipIdx_iff_getElem?]
  rw [List.getElem?_eq_getElem hl, List.getElem_idxOf hl]

theorem wf_i64 {n : Int} (h1 : -9223372036854775808 ≤ n) (h2 : n ≤ 9223372036854775807) : (Lit.int .i64 n).wf = true := WalkArith.wf_i64 ⟨h1, h2⟩

theorem zero3 (w : World) : (zeroValue 3).run Try.prog w = .ok (.int .i64 0) w := by kernel_rfl

set_option maxRecDepth 100000 in
theorem Smooth1_calls (seen : List Int) (B mb : Nat) (n : Int) (W : World) (hn1 : -8 ≤ n) (hn2 : n < 6) (hlen : seen.length ≤ 1000000) (hB : W.cell? ⟨B, 0, none⟩ = some (.map (some mb))) (hBm : B ≠ mb)
    (hM : MapIs Try.prog 3 W mb (entries seen)) :
    Calls Try.prog 168 #[.int .i64 n, .pointer (some ⟨B, 0, none⟩)] W fun e W' => ∃ u, e = .returned u ∧ IsInts Any W' u [nm seen n] ∧ MapIs Try.prog 3 W' mb (entries (adds seen n)) ∧ Keeps (fun i => i = mb) W W' := by
  by_cases h0 : 0 ≤ n
  · have hr : Hid (nm seen n = n ∧ adds seen n = seen) := by rw [Hid, nm, adds, if_pos h0, if_pos (.inl h0)]; exact ⟨rfl, rfl⟩
    have hM' := Lib.hid hM
    clear hM hB
    go_enter Try.func168, Try.ntmps168
    go_wp2_with fail
    go_ret
    refine ⟨_, rfl, by rw [hr.out.1]; exact (ints_one W n 3).any, ?_, .of_below (below_alloc _ _)⟩
    rw [hr.out.2]
    exact hM'.out.keep (Below.heap_alloc _ _ _ hM'.out.lt)
  · have h0' : n < 0 := by omega
    have hkey : keyOf Try.prog 3 (.int .i64 n) = some (.int .i64 n) := keyOf_int_mk Try.underlying3 (wf_i64 (by omega) (by omega))
    have hK := Lib.hid hkey
    clear hkey
    have hBl : B < W.heap.size := World.block_lt_of_cell? _ _ hB
    by_cases hin : n ∈ seen
    · have hr : Hid (nm seen n = -1 - (seen.idxOf n : Int) ∧ adds seen n = seen) := by
        have : adds seen n = seen := by rw [adds, if_pos (.inr hin)]
        rw [Hid, nm, if_neg h0, this]; exact ⟨rfl, rfl⟩
      have hp := Lib.hid (entries_pres hin)
      have hM' := Lib.hid hM
      have hne : ((-1 - (seen.idxOf n : Int)) == 0) = false := by simp; omega
      have hlt : (seen.idxOf n : Int) ≤ 1000000 := by have := List.idxOf_lt_length_of_mem hin; omega
      clear hM h0 hin
      go_enter Try.func168, Try.ntmps168
      go_wp2_with (at_lookup; refine lookup_pres false _ _ 178 rfl rfl 3 3 (int_keyed Try.underlying3) Try.underlying178 mb _ rfl hM'.out _ (.int .i64 (-1 - (seen.idxOf n : Int))) _ rfl hK.out hp.out ?_)
      go_ret
      refine ⟨_, rfl, by rw [hr.out.1]; exact (ints_one W _ 3).any, ?_, .of_below (below_alloc _ _)⟩
      rw [hr.out.2]
      exact hM'.out.keep (Below.heap_alloc _ _ _ hM'.out.lt)
    · have hr : Hid (nm seen n = -1 - (seen.length : Int) ∧ adds seen n = seen ++ [n]) := by
        have : adds seen n = seen ++ [n] := by rw [adds, if_neg (by rintro (h | h); omega; exact hin h)]
        rw [Hid, nm, if_neg h0, this, idxOf_new hin]; exact ⟨rfl, rfl⟩
      have ha := Lib.hid (entries_abs hin)
      have hM' := Lib.hid hM
      have hlt : (seen.length : Int) ≤ 1000000 := by omega
      have tok1 : True := trivial
      clear hM h0 hin
      go_enter Try.func168, Try.ntmps168
      go_wp2_with (first
        | (at_lookup; have _t := tok1; refine lookup_abs false _ _ 178 rfl rfl 3 3 (.int .i64 0) (int_keyed Try.underlying3) Try.underlying178 (zero3 _) mb _ rfl hM'.out _ _ rfl hK.out ha.out ?_; clear tok1)
        | (at_len; refine maplen _ 178 rfl rfl 3 3 Try.underlying178 mb _ rfl hM'.out ?_; rw [entries_len])
        | (at_mapUpdate; refine mapset_abs _ _ _ 178 rfl rfl rfl 3 3 (int_keyed Try.underlying3) Try.underlying178 mb _ rfl hM'.out _ _ rfl hK.out ha.out ?_; intro w1 hm1 hk1 hs1; have hB1 : w1.cell? ⟨B, 0, none⟩ = some (.map (some mb)) := (World.cell?_of_block (w := W) (hk1.block B hBl hBm)).trans hB)
        | (at_lookup; refine lookup_pres false _ _ 178 rfl rfl 3 3 (int_keyed Try.underlying3) Try.underlying178 mb _ rfl hm1 _ (.int .i64 (-1 - (seen.length : Int))) _ rfl hK.out ?p1 ?_))
      case p1 => exact List.mem_append.2 (.inr (List.mem_singleton.2 rfl))
      go_ret
      have hI := ints_one w1 (-1 - (seen.length : Int)) 3
      rw [hs1] at hI
      refine ⟨_, rfl, by rw [hr.out.1]; exact hI.any, ?_, hk1.trans (.of_below (below_alloc _ _))⟩
      rw [hr.out.2, entries_append]
      exact MapIs.keep hm1 (Below.heap_alloc _ _ _ hm1.lt)

/-- All of a list of terms, one behind the other, their variables plain. -/
def smoL : List Int → List (List Int) → List (List Int)
  | _, [] => []
  | seen, t :: ts => smo seen t :: smoL (seenA seen t) ts
def seenL (seen : List Int) (ts : List (List Int)) : List Int := ts.foldl seenA seen

theorem smoL_take {seen : List Int} {ts : List (List Int)} {k : Nat} (hk : k < ts.length) : smoL seen (ts.take k) ++ [smo (seenL seen (ts.take k)) (nthT ts k)] = smoL seen (ts.take (k + 1)) := by
  induction ts generalizing seen k with
  | nil => simp at hk
  | cons t ts ih =>
    cases k with
    | zero => rfl
    | succ k =>
      have := ih (seen := seenA seen t) (k := k) (by simpa using hk)
      simp only [List.take_succ_cons, smoL, List.cons_append]
      rw [← this]
      simp [nthT, List.getD, seenL]
theorem seenL_take {seen : List Int} {ts : List (List Int)} {k : Nat} (hk : k < ts.length) : seenA (seenL seen (ts.take k)) (nthT ts k) = seenL seen (ts.take (k + 1)) := by
  rw [nthT_eq hk, List.take_succ_eq_append_getElem hk, seenL, seenL, List.foldl_append]; rfl
theorem smoL_len (seen : List Int) (ts : List (List Int)) : (smoL seen ts).length = ts.length := by
  induction ts generalizing seen with
  | nil => rfl
  | cons t ts ih => simp [smoL, ih]
theorem seenL_nodup {seen : List Int} (h : seen.Nodup) (ts : List (List Int)) : (seenL seen ts).Nodup := by
  induction ts generalizing seen with
  | nil => exact h
  | cons t ts ih => exact ih (seenA_nodup h t)
theorem seenL_len (seen : List Int) (ts : List (List Int)) (n : Nat) (h : ∀ t ∈ ts, t.length ≤ n) : (seenL seen ts).length ≤ seen.length + ts.length * n := by
  induction ts generalizing seen with
  | nil => simp [seenL]
  | cons t ts ih =>
    have h1 := ih (seenA seen t) (fun x hx => h x (List.mem_cons_of_mem _ hx))
    have h2 := seenA_len seen t
    have h3 := h t (by simp)
    show (seenL (seenA seen t) ts).length ≤ _
    simp only [List.length_cons, Nat.add_mul]; omega

/-- One term, the names in block mb. -/
theorem Smooth_one (t : List Int) (seen : List Int) (v : Value) (B mb : Nat) (w : World) (ht : Signs t) (htl : t.length ≤ 1000) (hsl : seen.length ≤ 100000) (hv : IsInts (fun b => ¬ b = mb) w v t)
    (hB : w.cell? ⟨B, 0, none⟩ = some (.map (some mb))) (hBm : B ≠ mb) (hM : MapIs Try.prog 3 w mb (entries seen)) :
    Calls Try.prog 166 #[v, .func (.func 168) #[] #[.pointer (some ⟨B, 0, none⟩)]] w fun e w' => ∃ u, e = .returned u ∧ IsInts (Fr w.heap.size) w' u (smo seen t) ∧ MapIs Try.prog 3 w' mb (entries (seenA seen t)) ∧ Keeps (fun i => i = mb) w w' := by
  have hBl : B < w.heap.size := World.block_lt_of_cell? _ _ hB
  refine (Each_calls t v 168 #[.pointer (some ⟨B, 0, none⟩)] (fun k => [nm (seenA seen (t.take k)) (nth t k)]) (fun i => i = mb)
    (fun k W => MapIs Try.prog 3 W mb (entries (seenA seen (t.take k)))) w (enters_fn Try.func168 (by kernel_rfl) rfl) hv hM (fun b hb => by rw [hb]; exact hM.lt)
    (fun k W W' h hk hz => h.keep (hk.block mb h.lt (by have := hM.lt; omega)))
    (fun k W hk h hK => ?_) (fun k hk => ?_)).mono ?_
  · have hx := ht _ (nth_mem hk)
    refine (Smooth1_calls (seenA seen (t.take k)) B mb (nth t k) W hx.1 hx.2 ?_ ((World.cell?_of_block (w := w) (hK.block B hBl hBm)).trans hB) hBm h).mono ?_
    · have := seenA_len seen (t.take k)
      have : (t.take k).length ≤ 1000 := by simp; omega
      omega
    · rintro e W' ⟨u, rfl, hu, hm, hk'⟩
      exact ⟨u, rfl, hu, by rw [seenA_take hk]; exact hm, hk'⟩
  · rw [joinF_smo _ _ _ hk, smo_length]; simp; omega
  · rintro e W' ⟨u, rfl, hu, hm, hk'⟩
    rw [joinF_smo _ _ _ (Nat.le_refl _), List.take_length] at hu
    rw [List.take_length] at hm
    exact ⟨u, rfl, hu, hm, hk'⟩

theorem smoL_set {n k : Nat} {A : List (List Int)} {x : List Int} (hA : A.length = k) (hk : k < n) : (A ++ List.replicate (n - k) []).set k x = (A ++ [x]) ++ List.replicate (n - (k + 1)) [] := by
  obtain ⟨m, hm⟩ : ∃ m, n - k = m + 1 := ⟨n - k - 1, by omega⟩
  rw [hm, show n - (k + 1) = m by omega, List.replicate_succ, List.set_append_right _ _ (by omega), hA, Nat.sub_self, List.set_cons_zero, List.append_assoc]
  rfl

/-- Behind k terms. -/
def SmRel (w : World) (ls : List (List Int)) (k : Nat) (wr : World) : Prop :=
  OwnRow (w.heap.size + 2) 24 1 TermR (Fr (w.heap.size + 2)) wr (.slice (some ⟨w.heap.size + 2, 0, none⟩) ls.length ls.length) (smoL [] (ls.take k) ++ List.replicate (ls.length - k) []) ∧
  MapIs Try.prog 3 wr w.heap.size (entries (seenL [] (ls.take k))) ∧ wr.cell? ⟨w.heap.size + 1, 0, none⟩ = some (.map (some w.heap.size)) ∧ Below w.heap.size w wr ∧ w.heap.size + 3 ≤ wr.heap.size

set_option maxRecDepth 100000 in
set_option maxHeartbeats 1000000 in
theorem Smooth_calls (ls : List (List Int)) (v : Value) (w : World) (hne : ls ≠ []) (hll : ls.length ≤ 10) (hs : ∀ t ∈ ls, Signs t ∧ t.length ≤ 1000) (hv : IsTerms Any w v ls) :
    Calls Try.prog 105 #[v] w fun e w' => ∃ u, e = .returned u ∧ OwnRow w.heap.size 24 1 TermR (Fr w.heap.size) w' u (smoL [] ls) ∧ Below w.heap.size w w' := by
  obtain ⟨i24, hi, hz, hsz, hby⟩ := info_parts Try.inf24
  obtain ⟨hlen, ⟨rfl, -⟩ | ⟨hne, b, o, c, rfl, -, -, hlt, cs, he, hc⟩⟩ := hv
  · exact absurd rfl hne
  have hT : Hid (∀ j, j < ls.length → ∃ u, w.cell? ⟨b, o + j, none⟩ = some u ∧ IsInts Any w u (nthT ls j)) := fun j hj => terms_cell he hc hj
  have hS := Lib.hid hs
  have hmm := @run_makeMap Try.prog
  clear he hc hne hs
  go_enter Try.func105, Try.ntmps105
  go_wp2_with (at_make; refine make_rows (R := TermR) _ _ 22 rfl rfl (w.heap.size + 2) 24 i24 (.slice none 0 0) Try.underlying22 hi hz rfl hsz .i64 .i64 ls.length rfl rfl ?m1 ?m2 ?m3 (Fr (w.heap.size + 2)) [] (fun _ _ => ⟨_, rfl, .nil _ _⟩) ?_; rotate_left 3; intro w1 hown1 hb1 hlt1)
  case m1 => rw [hby]; omega
  case m2 => omega
  case m3 => simp
  have hst : Hid (SmRel w ls 0 w1) := by
    have hw0 : (w.alloc (.map #[] 0)).heap.size = w.heap.size + 1 := by simp
    have hw1 : ((w.alloc (.map #[] 0)).alloc (.cells #[.map (some w.heap.size)] 178)).heap.size = w.heap.size + 2 := by simp
    have hsame : ∀ j, j < w.heap.size + 2 → w1.heap[j]? = ((w.alloc (.map #[] 0)).alloc (.cells #[.map (some w.heap.size)] 178)).heap[j]? := fun j hj => hb1.block j (by rw [hw1]; exact hj)
    refine ⟨by simpa [Nat.add_assoc, smoL] using hown1, ?_, ?_, ?_, by simp at hlt1; omega⟩
    · refine (MapIs.made Try.prog 3 w).keep ?_
      rw [hsame w.heap.size (by omega), Below.heap_alloc _ _ w.heap.size (by omega)]
    · rw [World.cell?_of_block (w := (w.alloc (.map #[] 0)).alloc (.cells #[.map (some w.heap.size)] 178)) (hsame (w.heap.size + 1) (by omega)), World.cell?_alloc_at _ _ _ _ hw0.symm]; rfl
    · exact ((below_alloc w _).trans ((below_alloc _ _).mono (by omega))).trans (hb1.mono (by omega))
  clear hown1 hb1 hlt1
  go_loopw [13] (fun i wr => ∃ k : Nat, k ≤ ls.length ∧ i = .int .i64 k ∧ Hid (SmRel w ls k wr)) (fun i _ => ls.length - (intOf i).toNat)
  case atStart => exact ⟨0, by omega, rfl, by simpa [Hid] using hst.out⟩
  case round =>
    clear hst
    obtain ⟨k, hk, rfl, hR⟩ := hrel
    by_cases hlt' : k < ls.length
    · obtain ⟨hO, hM, hbox, hB, hsize⟩ := hR.out
      obtain ⟨u, hcu, hu⟩ := hT.out k hlt'
      have hcell : wr.cell? ⟨b, o + k, none⟩ = some u := (hB.cell (p := ⟨b, o + k, none⟩) hlt).trans hcu
      have hkk : k < (smoL [] (ls.take k) ++ List.replicate (ls.length - k) ([] : List Int)).length := by
        rw [List.length_append, smoL_len, List.length_replicate, List.length_take]; omega
      have hcall := Lib.hid (Smooth_one (nthT ls k) (seenL [] (ls.take k)) u (w.heap.size + 1) w.heap.size wr (hS.out _ (nthT_mem hlt')).1 (hS.out _ (nthT_mem hlt')).2
        (by
          have := seenL_len [] (ls.take k) 1000 (fun t ht => (hS.out t (List.mem_of_mem_take ht)).2)
          have h2 : (ls.take k).length ≤ 10 := by simp; omega
          simp only [List.length_nil] at this; omega)
        (hu.mono ⟨hB.size, fun b _ hb => ⟨by omega, hB.block b hb⟩⟩) hbox (by omega) hM)
      have hO' := Lib.hid hO
      have hB' := Lib.hid hB
      have hbx := Lib.hid hbox
      have hkk' := Lib.hid hkk
      clear hO hM hbox hB hcu hu hkk
      go_wp2_with (first
        | (go_at_call 166; refine hcall.out.mono ?_; rintro e w2 ⟨x, rfl, hx, hm2, hk2⟩; obtain ⟨ax, cx, rfl⟩ := hx.isSlice)
        | ((with_reducible show wpList _ _ _ (Oper.mk none (Op.store _ _ _) _ _ _ _ :: _) _ _);
           refine store_rows TermR.ok _ _ 24 rfl rfl rfl i24 hi hsz (w.heap.size + 2) 24 (Fr (w.heap.size + 2)) (w.heap.size + 2) k ls.length ls.length _ rfl (OwnRow.mono TermR.ok hO'.out ?s1 ?s2) hkk'.out (smo (seenL [] (ls.take k)) (nthT ls k)) ?s3 rfl ?_; rotate_left 3; intro w3 hown3 hg3 hz3))
      case s1 => exact hk2.sok fun b _ hb => by have : w.heap.size + 2 ≤ b := hb; omega
      case s2 => intro j hj; simp [Value.ownBlock] at hj; exact hk2.block j (by omega) (by omega)
      case s3 => exact ⟨_, rfl, hx.mono (.weak fun b hb => by have : wr.heap.size ≤ b := hb; exact ⟨by show w.heap.size + 2 ≤ b; omega, by omega⟩)⟩
      go_roundw
      case rel =>
        have hz2 := hk2.size
        refine ⟨k + 1, by omega, by go_num, ?_, ?_, ?_, ?_, by omega⟩
        · rw [smoL_set (by rw [smoL_len, List.length_take]; omega) hlt', smoL_take hlt'] at hown3
          exact hown3
        · rw [← seenL_take hlt']
          exact hm2.keep (hg3.block _ hm2.lt (by simp))
        · exact (World.cell?_of_block (w := w2) (hg3.block (w.heap.size + 1) (by omega) (by simp))).trans ((World.cell?_of_block (w := wr) (hk2.block (w.heap.size + 1) (by omega) (by omega))).trans hbx.out)
        · exact hB'.out.trans (Below.trans ⟨hk2.os, hk2.tape, hk2.output, hk2.size, fun i hi => hk2.block i (by have := hB'.out.size; omega) (by omega)⟩ ⟨hg3.os, hg3.tape, hg3.output, hg3.size, fun i hi => hg3.block i (by have := hB'.out.size; omega) (by simp; omega)⟩)
      case measure => simp [intOf]; omega
    · have : k = ls.length := by omega
      subst this
      go_wp2_with fail
      go_ret
      obtain ⟨hO, hM, hbox, hB, hsize⟩ := hR.out
      refine ⟨_, rfl, ?_, hB⟩
      rw [List.take_length, Nat.sub_self] at hO
      obtain ⟨cs, he, h1, h2⟩ := hO
      refine ⟨cs, by simpa using he.mono TermR.ok (.weak fun b hb => ⟨by have : w.heap.size + 2 ≤ b := hb.1; show w.heap.size ≤ b; omega, hb.2⟩), by simpa using h1, ?_⟩
      rcases h2 with ⟨h, _⟩ | ⟨g, cap, cur, hv, hb, hr⟩
      · simp at h
      · exact .inr ⟨g, cap, cur, by simpa using hv, by omega, by simpa using hr⟩

end Go.Proofs.Ytepddehodmljeaa
