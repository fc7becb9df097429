/- Walks: order: byPart, byHead. -/
import Derived.Test.YtepddehodmljeaaO3
namespace Go.Proofs.Ytepddehodmljeaa
open Go.RowKit Go.Maps Go.Shelf
attribute [local go_sem] Oper.semAt_some

theorem psN_mem {t : List Int} {k i : Nat} (h : i < ar (nth t k)) : psN t k i ∈ psT t k := by
  have h1 := psT_take h
  have h2 : psN t k i ∈ (psT t k).take (i + 1) := by rw [← h1]; simp
  exact List.mem_of_mem_take h2

set_option maxRecDepth 100000 in
set_option maxHeartbeats 1000000 in
theorem Parts1_inM (n : Nat) (hn : 1 ≤ n) (l Bk Bt : Nat) (M : Blk) (t : List Int) (ht : chk t = 0) (k : Nat) (hk : k < t.length) (v : Value) (J Jx : List Nat → World → Prop)
    (hY : ∀ pre x W, x ∈ psT t k → J pre W → pre.length < (psT t k).length → YieldAt Fence.wide (n - 1) Try.prog l #[.int .i64 (x : Nat)] W fun e W' =>
      (e = .returned (.bool true) ∧ J (pre ++ [x]) W' ∧ Keeps M W W') ∨ (e = .returned (.bool false) ∧ Jx (pre ++ [x]) W'))
    (W : World) (hBk : W.cell? ⟨Bk, 0, none⟩ = some (.int .i64 k)) (hBt : W.cell? ⟨Bt, 0, none⟩ = some v) (hlt : Bt < W.heap.size) (hMt : ¬ M Bt) (hv : IsInts (fun b => ¬ M b) W v t) (h0 : J [] W) :
    CallsIn Fence.wide n Try.prog 172 #[.func (.yield l) #[] #[], .pointer (some ⟨Bk, 0, none⟩), .pointer (some ⟨Bt, 0, none⟩)] W fun e W' => (∃ v, e = .returned v) ∧
      ((∃ ys, ys = psT t k ∧ J ys W') ∨ (∃ pre, pre <+: psT t k ∧ Jx pre W')) := by
  refine callsIn_of_wp Try.func172 rfl trivial ?_ rfl
  simp only [Try.ntmps172, List.size_toArray, List.length_cons, List.length_nil, Nat.reduceAdd, Nat.reduceSub, Array.replicate_succ, Array.replicate_zero, List.push_toArray, List.append_toArray, List.nil_append, List.cons_append]
  have hsm := Lib.hid (small_of_signs (signs_of_chk ht))
  have hln := len_of_chk ht
  have hv0 := Lib.hid hv
  obtain ⟨-, ⟨rfl, -⟩ | ⟨-, b, o, c, rfl, hcap, hbn, hbl, hc⟩⟩ := hv
  · simp at hk
  have hcell := hc k hk
  have hs := hsm.out _ (nth_mem hk)
  have har := ar_le (nth t k)
  have hp := Lib.hid fun i => psN_lt ht hk (i := i)
  have hkk : (k : Int) < t.length := by omega
  have hT := Lib.hid ht
  have hYh := Lib.hid hY
  clear hc ht hY
  gi_wp2_with fail
  refine ⟨trivial, (callsIn_wide.2 (Size_calls _ hs.1 hs.2 _)).mono ?_⟩
  rintro e w' ⟨rfl, rfl⟩
  gi_wp2_with fail
  gi_loopw [4, 12] (fun z i wr => ∃ j : Nat, j ≤ ar (nth t k) ∧ i = .int .i64 j ∧ (∃ zz, z = .int .i64 zz ∧ Hid (j < ar (nth t k) → zz = (psN t k j : Nat))) ∧ Hid (J ((psT t k).take j) wr ∧ Keeps M W wr))
    (fun _ i _ => ar (nth t k) - (intOf i).toNat)
  case atStart => exact ⟨0, by omega, rfl, ⟨_, rfl, fun _ => by simp [psN]⟩, by simpa using h0, .refl _ _⟩
  case round =>
    obtain ⟨j, hj, rfl, ⟨zz, rfl, hz⟩, hR⟩ := hrel
    by_cases hlt' : j < ar (nth t k)
    · obtain rfl := hz.out hlt'
      clear hz
      obtain ⟨fn, tmps, assign, body, hy, hRd⟩ := hYh.out _ (psN t k j) wr (psN_mem hlt') hR.out.1 (by rw [psT_len, List.length_take, psT_len]; omega)
      have hji : (j : Int) < ar (nth t k) := by omega
      gi_wp2_with fail
      refine hRd.mono ?_
      rintro e W3 (⟨rfl, hJ3, hk3⟩ | ⟨rfl, hJx3⟩)
      · have hB3 := Lib.hid (hR.out.2.trans hk3)
        have hBt3 : W3.cell? ⟨Bt, 0, none⟩ = some (.slice (some ⟨b, o, none⟩) t.length c) := (World.cell?_of_block (w := W) (hB3.out.block Bt hlt hMt)).trans hBt
        have hv3 : IsInts Any W3 (.slice (some ⟨b, o, none⟩) t.length c) t := hv0.out.mono ⟨hB3.out.size, fun i hi hl => ⟨trivial, hB3.out.block i hl hi⟩⟩
        have hSk := Lib.hid (Skip_calls t hsm.out _ W3 hv3 t.length (psN t k j : Nat) (by omega))
        have hJ4 := Lib.hid hJ3
        clear hv3 hk3 hJ3
        gi_wp2_with fail
        refine ⟨trivial, (callsIn_wide.2 hSk.out).mono ?_⟩
        rintro e w' ⟨rfl, rfl⟩
        gi_wp2_with fail
        go_roundw
        case rel =>
          refine ⟨j + 1, by omega, by go_num, ⟨_, rfl, fun hj2 => ?_⟩, by rw [← psT_take hlt']; exact hJ4.out, hB3.out⟩
          have e : j = 0 := by omega
          subst e
          have h1 := (hp.out 0 hlt').1
          have h2 : psN t k 0 = k + 1 := rfl
          rw [h2] at h1 ⊢
          exact (part_at hT.out h1).1
        case measure => simp [intOf]; omega
      · gi_wp2_with fail
        refine bodyPost_ret (results_none rfl _ _ _) rfl ?_
        refine ⟨⟨_, rfl⟩, .inr ⟨_, ?_, hJx3⟩⟩
        rw [psT_take hlt']
        exact List.take_prefix _ _
    · obtain rfl : j = ar (nth t k) := by omega
      gi_wp2_with fail
      go_end0
      exact ⟨⟨_, rfl⟩, .inl ⟨_, by rw [← psT_len, List.take_length], hR.out.1⟩⟩


/-- A part's place. -/
abbrev PsT (t : List Int) (k : Nat) := { x : Nat // x ∈ psT t k }
theorem Parts_stopsM (n : Nat) (hn : 1 ≤ n) (Bk Bt : Nat) (M : Blk) (t : List Int) (ht : chk t = 0) (k : Nat) (hk : k < t.length) (v : Value) (w : World) (hBk : w.cell? ⟨Bk, 0, none⟩ = some (.int .i64 k)) (hBt : w.cell? ⟨Bt, 0, none⟩ = some v)
    (hlk : Bk < w.heap.size) (hlt : Bt < w.heap.size) (hMt : ¬ M Bt) (hv : IsInts (fun b => ¬ M b) w v t) :
    SeqStopsK Fence.wide n Try.prog 172 #[.pointer (some ⟨Bk, 0, none⟩), .pointer (some ⟨Bt, 0, none⟩)] (fun x : PsT t k => #[Value.int .i64 (x.1 : Nat)]) (Keeps M) (fun ys => ys.map (fun x => x.1) = psT t k) (fun pre => pre.map (fun x => x.1) <+: psT t k) (psT t k).length w := by
  intro l J Jx W hW _ _ hY h0
  refine (Parts1_inM n hn l Bk Bt M t ht k hk v (fun pre W => ∃ pre' : List (PsT t k), pre'.map (fun x => x.1) = pre ∧ J pre' W) (fun pre W => ∃ pre' : List (PsT t k), pre'.map (fun x => x.1) = pre ∧ Jx pre' W) ?_ W
    ((hW.cell (p := ⟨Bk, 0, none⟩) hlk).trans hBk) ((hW.cell (p := ⟨Bt, 0, none⟩) hlt).trans hBt) (Nat.lt_of_lt_of_le hlt hW.size) hMt (hv.mono ⟨hW.size, fun b hb hl => ⟨hb, hW.block b hl⟩⟩) ⟨[], rfl, h0⟩).mono ?_
  · rintro pre x W hx ⟨pre', rfl, hJ⟩ hlen
    refine (hY pre' ⟨x, hx⟩ W hJ (by simpa using hlen)).mono ?_
    rintro e W' (⟨rfl, h1, h2⟩ | ⟨rfl, h1⟩)
    · exact .inl ⟨rfl, ⟨pre' ++ [⟨x, hx⟩], by simp, h1⟩, h2⟩
    · exact .inr ⟨rfl, ⟨pre' ++ [⟨x, hx⟩], by simp, h1⟩⟩
  · rintro e W' ⟨h1, ⟨ys, rfl, ys', h2, h3⟩ | ⟨pre, h2, pre', rfl, h3⟩⟩
    · exact ⟨h1, .inl ⟨ys', h2, h3⟩⟩
    · exact ⟨h1, .inr ⟨pre', h2, h3⟩⟩

variable {S Bm : Nat} {r a b : List Int} {rv av bv : Value} {w w' : World}

def hit (a b : List Int) (rk : Int → Int) (j k : Nat) : Bool := decide ((tmOf a).sub k = (tmOf b).sub j) || gt rk ((tmOf a).sub k) ((tmOf b).sub j)
theorem byPt_ps (ha : chk a = 0) {i j : Nat} (hi : i < a.length) (rk : Int → Int) : byPt rk ((tmOf a).sub i) ((tmOf b).sub j) = (psT a i).any fun k => hit a b rk j k := by
  unfold byPt
  rw [parts_ps ha hi, List.any_map]; rfl
theorem ScIs.boxes (h : ScIs S Bm r a b rv av bv w) : ∃ ba oa ca, a ≠ [] → av = .slice (some ⟨ba, oa, none⟩) a.length ca := by
  obtain ⟨-, ⟨h, -⟩ | ⟨-, b, o, c, h, -⟩⟩ := h.ha
  · exact ⟨0, 0, 0, fun hn => absurd h hn⟩
  · exact ⟨b, o, c, fun _ => h⟩

/-- What stands between two rounds abides what the iterator does. -/
theorem keeps_own {β : Type} {r a b : List Int} {Bm B n : Nat} {w : World} (h1 : Bm < B) (h2 : w.heap.size ≤ B) : OwnFrom B (fun (_ : β) W => (Keeps (fun k => k = Bm) w W ∧ MapOk r a b Bm W) ∧ n ≤ W.heap.size) := by
  intro s W W' row ⟨⟨hk, hm⟩, hn⟩ hg hr
  refine ⟨⟨⟨hg.os.trans hk.os, hg.tape.trans hk.tape, hg.output.trans hk.output, Nat.le_trans hk.size hg.size, fun k hk1 hk2 => ?_⟩, ?_⟩, Nat.le_trans hn hg.size⟩
  · rw [hg.block k (Nat.lt_of_lt_of_le hk1 hk.size) (fun e => by have := (hr k e.symm).1; omega)]
    exact hk.block k hk1 hk2
  · obtain ⟨l, hl1, hl2⟩ := hm
    exact ⟨l, hl1.keep (hg.block Bm hl1.lt (fun e => by have := (hr Bm e.symm).1; omega)), hl2⟩
theorem keeps_cell {Bm n o : Nat} {W W' : World} {v : Option Value} (hk : Keeps (fun k => k = Bm) W W') (h1 : n < W.heap.size) (h2 : n ≠ Bm) (h : W.cell? ⟨n, o, none⟩ = v) : W'.cell? ⟨n, o, none⟩ = v :=
  (World.cell?_of_block (w := W) (a := ⟨n, o, none⟩) (hk.block n h1 h2)).trans h
theorem keeps_frozen {Bm n o : Nat} {W W' : World} {v : Bool} (hk : Keeps (fun k => k = Bm) W W') (h1 : n < W.heap.size) (h2 : n ≠ Bm) (h : W.frozen? ⟨n, o, none⟩ = v) : W'.frozen? ⟨n, o, none⟩ = v :=
  (World.frozen?_of_block (w := W) (a := ⟨n, o, none⟩) (hk.block n h1 h2)).trans h
theorem keepsFrom_of {Bm B : Nat} {W W' : World} (hk : Keeps (fun k => k = Bm) W W') (h : Bm < B) : KeepsFrom B W W' :=
  ⟨hk.size, fun k _ hB ho _ => (hk.block k (Array.getElem?_eq_some_iff.1 ho).1 (by omega)).trans ho⟩

/-- The result is written. -/
theorem keeps_set {r a b : List Int} {Bm n : Nat} {w W : World} {v : Value} (hk : Keeps (fun k => k = Bm) w W) (hm : MapOk r a b Bm W) (h1 : w.heap.size ≤ n) (h2 : Bm < w.heap.size) :
    Keeps (fun k => k = Bm) w (W.setCell ⟨n, 0, none⟩ v) ∧ MapOk r a b Bm (W.setCell ⟨n, 0, none⟩ v) := by
  refine ⟨⟨hk.os, hk.tape, hk.output, by simp; exact hk.size, fun k h3 h4 => ?_⟩, ?_⟩
  · rw [Below.heap_setCell _ _ _ _ (by simp; omega)]; exact hk.block k h3 h4
  · obtain ⟨l, hl1, hl2⟩ := hm
    exact ⟨l, hl1.keep (Below.heap_setCell _ _ _ _ (by simp; omega)), hl2⟩
theorem keeps_def {r a b : List Int} {Bm D : Nat} {w W : World} (hk : Keeps (fun k => k = Bm) w W) (hm : MapOk r a b Bm W) (h1 : w.heap.size ≤ D) (h2 : Bm < w.heap.size) (o : Obj) :
    Keeps (fun k => k = Bm) w (W.putObj D o) ∧ MapOk r a b Bm (W.putObj D o) := by
  have hg := grownBy_putObj' W D o
  refine ⟨⟨hk.os, hk.tape, hk.output, Nat.le_trans hk.size hg.size, fun k h3 h4 => ?_⟩, ?_⟩
  · rw [hg.block k (Nat.lt_of_lt_of_le h3 hk.size) (fun e => by cases e; omega)]; exact hk.block k h3 h4
  · obtain ⟨l, hl1, hl2⟩ := hm
    exact ⟨l, hl1.keep (hg.block Bm hl1.lt (fun e => by cases e; omega)), hl2⟩

set_option maxRecDepth 100000 in
set_option maxHeartbeats 2000000 in
theorem byPart_of (ha : chk a = 0) (hb : chk b = 0) {i j : Nat} (hi : i < a.length) (hj : j < b.length)
    (ih : ∀ k w, k ∈ psT a i → ScIs S Bm r a b rv av bv w → ScCalls 178 S Bm r a b rv av bv k j w (GtP r a b k j))
    (h : ScIs S Bm r a b rv av bv w) : ScCalls 199 S Bm r a b rv av bv i j w (byPt (rkF r) ((tmOf a).sub i) ((tmOf b).sub j)) := by
  unfold ScCalls at ih ⊢
  have hP := Lib.hid (byPt_ps (b := b) (j := j) ha hi (rkF r))
  have hI := Lib.hid ih
  have hT := Lib.hid (And.intro ha hb)
  have hps := Lib.hid fun k (hk : k ∈ psT a i) => ps_lt ha hi hk
  have H := Lib.hid h
  have c1 := h.c1
  have hlt := h.lt
  have hsl := h.sl
  obtain ⟨aa, ac, rfl⟩ := h.ha.isSlice
  clear ih h ha hb
  refine (callsIn_wide (n := 5)).1 ?_
  refine callsIn_of_wp_marks Try.func199 rfl trivial ?_ rfl
  simp only [Try.ntmps199, List.size_toArray, List.length_cons, List.length_nil, Nat.reduceAdd, Nat.reduceSub, Array.replicate_succ, Array.replicate_zero, List.push_toArray, List.append_toArray, List.nil_append, List.cons_append]
  have hB3 := ext_alloc (ext_alloc (below_alloc w (.cells #[.pointer (some ⟨S, 0, none⟩)] 189)) (.cells #[.int .i64 j] 3)) (.cells #[.bool false] 4)
  have c1' := (hB3.cell (p := ⟨S, 1, none⟩) hsl).trans c1
  gi_wp2_with fail
  refine ⟨trivial, (callsIn_wide.2 (Parts_calls (.slice aa a.length ac) i _ rfl)).mono ?_⟩
  rintro e w' ⟨rfl, rfl⟩
  gi_wp2_with fail
  obtain ⟨W0, hW0⟩ : ∃ W0, W0 = ((((w.alloc (.cells #[.pointer (some ⟨S, 0, none⟩)] 189)).alloc (.cells #[.int .i64 j] 3)).alloc (.cells #[.bool false] 4)).alloc (.cells #[.slice aa a.length ac] 24)).alloc (.cells #[.int .i64 i] 3) := ⟨_, rfl⟩
  rw [← hW0]
  have hz : W0.heap.size = w.heap.size + 5 := by rw [hW0]; simp
  have hB0 : Below w.heap.size w W0 := by rw [hW0]; exact ext_alloc (ext_alloc hB3 _) _
  have k0 : W0.cell? ⟨w.heap.size, 0, none⟩ = some (.pointer (some ⟨S, 0, none⟩)) := by rw [hW0]; simp [go_sem]
  have k1 : W0.cell? ⟨w.heap.size + 1, 0, none⟩ = some (.int .i64 j) := by rw [hW0]; simp [go_sem]
  have k2 : W0.cell? ⟨w.heap.size + 1 + 1, 0, none⟩ = some (.bool false) := by rw [hW0]; simp [go_sem]
  have k3 : W0.cell? ⟨w.heap.size + 1 + 1 + 1, 0, none⟩ = some (.slice aa a.length ac) := by rw [hW0]; simp [go_sem]
  have k4 : W0.cell? ⟨w.heap.size + 1 + 1 + 1 + 1, 0, none⟩ = some (.int .i64 i) := by rw [hW0]; simp [go_sem]
  have f2 : W0.frozen? ⟨w.heap.size + 1 + 1, 0, none⟩ = false := by rw [hW0]; simp [go_sem]
  clear hW0 hB3 c1' c1
  refine wpIn_rangeFunc_ownG rfl (by omega) (gf := 172) (lb := #[.pointer (some ⟨w.heap.size + 1 + 1 + 1 + 1, 0, none⟩), .pointer (some ⟨w.heap.size + 1 + 1 + 1, 0, none⟩)]) rfl trivial (enters_of Try.func172 (by kernel_rfl) rfl)
    (Parts_stopsM _ (by omega) (w.heap.size + 1 + 1 + 1 + 1) (w.heap.size + 1 + 1 + 1) (fun k => k = Bm ∨ k = w.heap.size + 2 ∨ w.heap.size + 5 ≤ k) a hT.out.1 i hi _ W0 k4 k3 (by omega) (by omega) (by omega)
      (H.out.ha.mono ⟨hB0.size, fun k hk hl => ⟨by omega, hB0.block k hl⟩⟩)) Keeps.trans (keepsK_b (by intro l hl; omega)) (Below.refl _ _) (fun _ => rfl)
    (fun pre W => ((W.cell? ⟨w.heap.size, 0, none⟩ = some (.pointer (some ⟨S, 0, none⟩)) ∧ W.cell? ⟨w.heap.size + 1, 0, none⟩ = some (.int .i64 j) ∧ W.cell? ⟨w.heap.size + 1 + 1, 0, none⟩ = some (.bool false) ∧ W.frozen? ⟨w.heap.size + 1 + 1, 0, none⟩ = false) ∧ (∀ x ∈ pre, hit a b (rkF r) j x.1 = false)) ∧
      ((Keeps (fun k => k = Bm) w W ∧ MapOk r a b Bm W) ∧ w.heap.size + 5 ≤ W.heap.size))
    (fun c _ W => ((c = .ret ∧ W.cell? ⟨w.heap.size + 1 + 1, 0, none⟩ = some (.bool true)) ∧ (∃ k ∈ psT a i, hit a b (rkF r) j k = true)) ∧ ((Keeps (fun k => k = Bm) w W ∧ MapOk r a b Bm W) ∧ w.heap.size + 5 ≤ W.heap.size))
    (OwnFrom.and (Own.from (fun s A B row hs hg hr => ⟨⟨cell_kept hs.1.1 hg hr, cell_kept hs.1.2.1 hg hr, cell_kept hs.1.2.2.1 hg hr, (frozen_kept hs.1.2.2.1 hg hr).trans hs.1.2.2.2⟩, hs.2⟩) _) (keeps_own (by omega) (by omega)))
    (fun _ => OwnFrom.and (Own.from (fun s A B row hs hg hr => ⟨⟨hs.1.1, cell_kept hs.1.2 hg hr⟩, hs.2⟩) _) (keeps_own (by omega) (by omega)))
    ⟨⟨⟨k0, k1, k2, f2⟩, fun x hx => by cases hx⟩, ⟨.of_below hB0, (H.out.below hB0).mp⟩, by omega⟩
    (fun x => { tmps := #[.pointer (some ⟨S, 0, none⟩), .int .i64 i, .int .i64 j, .pointer (some ⟨w.heap.size, 0, none⟩), undef, .pointer (some ⟨w.heap.size + 1, 0, none⟩), .pointer (some ⟨w.heap.size + 1 + 1, 0, none⟩), .int .i64 x.1,
          .pointer (some ⟨S, 0, none⟩), .pointer (some ⟨S, 0, none⟩), .pointer (some ⟨S, 1, none⟩), .slice aa a.length ac, .int .i64 i,
          .func (.func 172) #[] #[.pointer (some ⟨w.heap.size + 1 + 1 + 1 + 1, 0, none⟩), .pointer (some ⟨w.heap.size + 1 + 1 + 1, 0, none⟩)], .int .i64 x.1, undef, undef, undef, undef, undef, undef, undef, undef, undef, undef], defers := [] }) ?assign ?body ?done ?stop
  case assign =>
    intro l x W K hK
    gi_wp2
    exact hK
  case body =>
    rintro l pre x W ⟨⟨⟨hc0, hc1, hc2, hf⟩, hno⟩, ⟨hK, hm⟩, hsz⟩ _
    have hS := H.out.keep hK hm
    have hx := hps.out x.1 x.2
    have hsame := Lib.hid (same_calls hT.out.1 hT.out.2 hS hx.1 hj)
    have HS := Lib.hid hS
    have HK := Lib.hid hK
    clear hS hK hm
    cases hsm : decide ((tmOf a).sub x.1 = (tmOf b).sub j)
    · rw [hsm] at hsame
      gi_wp2_with fail
      refine ⟨trivial, (CallsIn.inRound l (callsIn_wide.2 hsame.out)).mono ?_⟩
      rintro e w' ⟨rfl, nd, rfl⟩
      have hcall := Lib.hid (hI.out x.1 (W.drewN nd) x.2 (HS.out.below (below_drewN _ _ nd)))
      cases hg : GtP r a b x.1 j
      · rw [hg] at hcall
        gi_wp2_with fail
        refine ⟨trivial, (CallsIn.inRound l (callsIn_wide.2 hcall.out)).mono ?_⟩
        rintro e w2 ⟨rfl, hS2, hK2⟩
        have hKK : Keeps (fun k => k = Bm) W w2 := (Keeps.of_below (below_drewN _ W nd)).trans hK2
        have HS2 := Lib.hid hS2
        clear hS2 hK2 hcall hsame
        gi_wp2_with fail
        refine ⟨keepsFrom_of hKK (by omega), ⟨hKK.os, hKK.tape, hKK.output, hKK.size, fun k hk hm => hKK.block k hk fun e => hm (.inl e)⟩, ⟨⟨?_, ?_, ?_, ?_⟩, ?_⟩, ⟨HK.out.trans hKK, HS2.out.mp⟩, Nat.le_trans hsz hKK.size⟩
        · exact keeps_cell hKK (by omega) (by omega) hc0
        · exact keeps_cell hKK (by omega) (by omega) hc1
        · exact keeps_cell hKK (by omega) (by omega) hc2
        · exact keeps_frozen hKK (by omega) (by omega) hf
        · intro y hy
          rcases List.mem_append.1 hy with h1 | h1
          · exact hno y h1
          · simp at h1; subst h1
            rw [hit, hsm]
            exact hg
      · rw [hg] at hcall
        gi_wp2_with fail
        refine ⟨trivial, (CallsIn.inRound l (callsIn_wide.2 hcall.out)).mono ?_⟩
        rintro e w2 ⟨rfl, hS2, hK2⟩
        have hKK : Keeps (fun k => k = Bm) W w2 := (Keeps.of_below (below_drewN _ W nd)).trans hK2
        have hc2' : w2.cell? ⟨w.heap.size + 1 + 1, 0, none⟩ = some (.bool false) := keeps_cell hKK (by omega) (by omega) hc2
        have hf' : w2.frozen? ⟨w.heap.size + 1 + 1, 0, none⟩ = false := keeps_frozen hKK (by omega) (by omega) hf
        have HS2 := Lib.hid hS2
        clear hS2 hK2 hcall hsame
        gi_wp2_with fail
        obtain ⟨g1, g2⟩ := keeps_set (n := w.heap.size + 1 + 1) (v := .bool true) (HK.out.trans hKK) HS2.out.mp (by omega) hlt
        refine ⟨(keepsFrom_of hKK (by omega)).trans ((KeepsOthers.setCell _ _ _).from _), ⟨⟨rfl, World.cell?_setCell_same' _ _ _ (by rw [hc2']; rfl)⟩, x.1, x.2, ?_⟩, ⟨g1, g2⟩, by simp; exact Nat.le_trans hsz hKK.size⟩
        rw [hit, hsm]
        exact hg
    · rw [hsm] at hsame
      gi_wp2_with fail
      refine ⟨trivial, (CallsIn.inRound l (callsIn_wide.2 hsame.out)).mono ?_⟩
      rintro e w' ⟨rfl, nd, rfl⟩
      have hKK : Keeps (fun k => k = Bm) W (W.drewN nd) := Keeps.of_below (below_drewN _ W nd)
      gi_wp2_with fail
      refine ⟨trivial, ?_⟩
      gi_wp2_with fail
      obtain ⟨g1, g2⟩ := keeps_set (n := w.heap.size + 1 + 1) (v := .bool true) (HK.out.trans hKK) (HS.out.below (below_drewN _ W nd)).mp (by omega) hlt
      refine ⟨(keepsFrom_of hKK (by omega)).trans ((KeepsOthers.setCell _ _ _).from _), ⟨⟨rfl, World.cell?_setCell_same' _ _ _ (by show (W.cell? _).isSome = true; rw [hc2]; rfl)⟩, x.1, x.2, ?_⟩, ⟨g1, g2⟩, by simp; omega⟩
      rw [hit, hsm]; rfl
  case done =>
    rintro D ys W hD hys ⟨⟨⟨hc0, hc1, hc2, hf⟩, hno⟩, ⟨hK, hm⟩, hsz⟩ hKD
    have hr : byPt (rkF r) ((tmOf a).sub i) ((tmOf b).sub j) = false := by
      rw [hP.out, List.any_eq_false]
      intro k hk
      rw [← hys] at hk
      obtain ⟨x, hx, rfl⟩ := List.mem_map.1 hk
      rw [hno x hx]; decide
    have hR := Lib.hid hr
    clear hr
    gi_wp2_with fail
    have hK' := (KeepsOthers.setCell W ⟨w.heap.size + 1 + 1, 0, none⟩ (.bool false)).same D _ hKD rfl
    obtain ⟨g1, g2⟩ := keeps_set (n := w.heap.size + 1 + 1) (v := .bool false) hK hm (by omega) hlt
    obtain ⟨g3, g4⟩ := keeps_def (D := D) g1 g2 (by omega) hlt (.deferred none)
    refine ⟨by simp, .inl ⟨_, _, rfl, run_takeDeferred hK', ?_⟩⟩
    have hc5 := cell_kept (World.cell?_setCell_same' W ⟨w.heap.size + 1 + 1, 0, none⟩ (.bool false) (by rw [hc2]; rfl)) (grownBy_putObj' _ D (.deferred none)) (fun r e => by cases e; exact ⟨_, hK', rfl⟩)
    refine ⟨.bool false, ?_, by rw [hR.out], H.out.keep g3 g4, g3⟩
    simp [results, Try.f199, go_sem, hc5]
  case stop =>
    rintro D c pre W hD _ ⟨⟨⟨rfl, hc2⟩, k, hk, hkk⟩, ⟨hK, hm⟩, hsz⟩ hKD
    have hr : byPt (rkF r) ((tmOf a).sub i) ((tmOf b).sub j) = true := by
      rw [hP.out, List.any_eq_true]
      exact ⟨k, hk, hkk⟩
    have hR := Lib.hid hr
    clear hr
    gi_wp2_with fail
    obtain ⟨g3, g4⟩ := keeps_def (D := D) hK hm (by omega) hlt (.deferred none)
    refine ⟨by simp, .inl ⟨_, _, rfl, run_takeDeferred hKD, ?_⟩⟩
    have hc5 := cell_kept hc2 (grownBy_putObj' _ D (.deferred none)) (fun r e => by cases e; exact ⟨_, hKD, rfl⟩)
    refine ⟨.bool true, ?_, by rw [hR.out], H.out.keep g3 g4, g3⟩
    simp [results, Try.f199, go_sem, hc5]

end Go.Proofs.Ytepddehodmljeaa
