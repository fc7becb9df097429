/- Walks: order: byHead. -/
import Derived.Test.YtepddehodmljeaaO4
import Derived.Sort.QuietIn
import Derived.StillTailTactics
import Derived.Deep.RegionHeld3
namespace Go.Proofs.Ytepddehodmljeaa
open Go.RowKit Go.Maps Go.Shelf
attribute [local go_sem] Oper.semAt_some

variable {S Bm : Nat} {r a b : List Int} {rv av bv : Value} {w w' : World}

/-- What stands behind code that does not leave. -/
def onNormal (K : Act → World → Prop) : Exit → Act → World → Prop
  | .normal, a, w => K a w
  | _, _, _ => False
theorem wp_normal {P : Program} {c : Code} {K : Act → World → Prop} {Q' : Exit → Act → World → Prop} {a : Act} {w : World} (h : c.wp P (onNormal K) a w) : c.wp P (Exit.then K Q') a w :=
  Code.wp_mono (fun e a w h => by cases e <;> first | exact h | exact h.elim) h

theorem byHt_neg {rk : Int → Int} {A B : Tm} (h : A.sg < 0 ∨ B.sg < 0) : byHt rk A B = false := by
  unfold byHt
  rcases h with h | h
  · rw [decide_eq_false (by omega : ¬ 0 ≤ A.sg)]; rfl
  · rw [decide_eq_false (by omega : ¬ 0 ≤ B.sg), Bool.and_false]; rfl
theorem byHt_pos {rk : Int → Int} {A B : Tm} (h : 0 ≤ A.sg) (h' : 0 ≤ B.sg) : byHt rk A B = (B.parts.all (fun q => gt rk A q) && (if A.sg ≠ B.sg then decide (rk B.sg < rk A.sg) else lexM rk A.parts B.parts)) := by
  unfold byHt
  rw [decide_eq_true h, decide_eq_true h']; rfl

theorem plI_nth {ys : List Nat} {n : Nat} (h : n < ys.length) : nth (plI ys) n = ((ys[n] : Nat) : Int) := by
  rw [nth_eq (by simpa [plI] using h)]; simp [plI]
theorem plI_len (ys : List Nat) : (plI ys).length = ys.length := by simp [plI]
theorem lexM_go {rk : Int → Int} : ∀ {xs ys : List Tm} {n : Nat}, n ≤ xs.length → n ≤ ys.length → (∀ m (h1 : m < xs.length) (h2 : m < ys.length), m < n → xs[m] = ys[m]) → lexM rk xs ys = lexM rk (xs.drop n) (ys.drop n)
  | _, _, 0, _, _, _ => by simp
  | [], _, n + 1, h, _, _ => by simp at h
  | _ :: _, [], n + 1, _, h, _ => by simp at h
  | x :: xs, y :: ys, n + 1, h1, h2, h => by
    have h0 : x = y := h 0 (by simp) (by simp) (by omega)
    rw [List.drop_succ_cons, List.drop_succ_cons, ← lexM_go (xs := xs) (ys := ys) (n := n) (by simpa using h1) (by simpa using h2) (fun m k1 k2 k3 => by
      have := h (m + 1) (by simpa using k1) (by simpa using k2) (by omega)
      simpa using this)]
    show (if x ≠ y then gt rk x y else lexM rk xs ys) = _
    rw [if_neg (by simpa using h0)]
theorem lexM_at {rk : Int → Int} {xs ys : List Tm} {n : Nat} (h1 : n < xs.length) (h2 : n < ys.length) (h : ∀ m (h1 : m < xs.length) (h2 : m < ys.length), m < n → xs[m] = ys[m]) (hne : xs[n] ≠ ys[n]) : lexM rk xs ys = gt rk xs[n] ys[n] := by
  rw [lexM_go (n := n) (by omega) (by omega) h, List.drop_eq_getElem_cons h1, List.drop_eq_getElem_cons h2]
  show (if xs[n] ≠ ys[n] then _ else _) = _
  rw [if_pos hne]
theorem lexM_all {rk : Int → Int} {xs ys : List Tm} (hl : xs.length ≤ ys.length) (h : ∀ m (h1 : m < xs.length) (h2 : m < ys.length), xs[m] = ys[m]) : lexM rk xs ys = false := by
  rw [lexM_go (n := xs.length) (by omega) hl (fun m h1 h2 _ => h m h1 h2), List.drop_length]; rfl

theorem head_all {rk : Int → Int} {a b : List Int} {i j : Nat} (hb : chk b = 0) (hj : j < b.length) (h : ∀ k ∈ psT b j, gt rk ((tmOf a).sub i) ((tmOf b).sub k) = true) : ((tmOf b).sub j).parts.all (fun q => gt rk ((tmOf a).sub i) q) = true := by
  rw [parts_ps hb hj, List.all_map, List.all_eq_true]; exact h
theorem head_no {rk : Int → Int} {a b : List Int} {i j k : Nat} (hb : chk b = 0) (hj : j < b.length) (hk : k ∈ psT b j) (h : gt rk ((tmOf a).sub i) ((tmOf b).sub k) = false) : ((tmOf b).sub j).parts.all (fun q => gt rk ((tmOf a).sub i) q) = false := by
  rw [parts_ps hb hj, List.all_map, List.all_eq_false]; exact ⟨k, hk, by simp [h]⟩

set_option maxRecDepth 100000 in
set_option maxHeartbeats 4000000 in
theorem byHead_of (hrl : r.length = 6) (ha : chk a = 0) (hb : chk b = 0) {i j : Nat} (hi : i < a.length) (hj : j < b.length)
    (ih : ∀ k w, k ∈ psT b j → ScIs S Bm r a b rv av bv w → ScCalls 178 S Bm r a b rv av bv i k w (GtP r a b i k))
    (ih2 : ∀ k m w, k ∈ psT a i → m ∈ psT b j → ScIs S Bm r a b rv av bv w → ScCalls 178 S Bm r a b rv av bv k m w (GtP r a b k m))
    (h : ScIs S Bm r a b rv av bv w) : ScCalls 200 S Bm r a b rv av bv i j w (byHt (rkF r) ((tmOf a).sub i) ((tmOf b).sub j)) := by
  unfold ScCalls at ih ih2 ⊢
  have hsgA := (sub_flat ha hi).2.2
  have hsgB := (sub_flat hb hj).2.2
  have hI := Lib.hid ih
  have hI2 := Lib.hid ih2
  have hT := Lib.hid (And.intro ha hb)
  have hpsa := Lib.hid fun k (hk : k ∈ psT a i) => ps_lt ha hi hk
  have hpsb := Lib.hid fun k (hk : k ∈ psT b j) => ps_lt hb hj hk
  have H := Lib.hid h
  have c1 := h.c1
  have c2 := h.c2
  have hlt := h.lt
  have hsl := h.sl
  obtain ⟨ba, oa, ca, rfl⟩ := h.ha.cells (ne_of_chk ha)
  obtain ⟨bb, ob, cb, rfl⟩ := h.hb.cells (ne_of_chk hb)
  obtain ⟨br, or, cr, rfl⟩ := h.hr.cells (fun e => by rw [e] at hrl; simp at hrl)
  have hB3 := ext_alloc (ext_alloc (below_alloc w (.cells #[.pointer (some ⟨S, 0, none⟩)] 189)) (.cells #[.int .i64 i] 3)) (.cells #[.bool false] 4)
  have c1' := (hB3.cell (p := ⟨S, 1, none⟩) hsl).trans c1
  have c2' := (hB3.cell (p := ⟨S, 2, none⟩) hsl).trans c2
  have ci := (h.ha.any.below hB3).cell hi
  have cj := (h.hb.any.below hB3).cell hj
  have hii : (i : Int) < a.length := by omega
  have hjj : (j : Int) < b.length := by omega
  have hK3 := Keeps.of_below (M := fun k => k = Bm) hB3
  have hS3 := h.below hB3
  have hKS := Lib.hid (And.intro hK3 hS3)
  clear ih ih2 h ha hb hS3 hK3
  refine (callsIn_wide (n := 5)).1 ?_
  refine callsIn_of_wp_marks Try.func200 rfl trivial ?_ rfl
  simp only [Try.ntmps200, List.size_toArray, List.length_cons, List.length_nil, Nat.reduceAdd, Nat.reduceSub, Array.replicate_succ, Array.replicate_zero, List.push_toArray, List.append_toArray, List.nil_append, List.cons_append]
  by_cases h0 : nth a i < 0
  · have hr := Lib.hid (byHt_neg (rk := rkF r) (A := (tmOf a).sub i) (B := (tmOf b).sub j) (.inl (by omega)))
    have hd : decide (nth a i < 0) = true := decide_eq_true h0
    clear h0
    gi_wp2_with fail
    gi_quiet (fail)
    gi_wp2_with fail
    have hm3 := hKS.out.2.mp
    obtain ⟨g1, g2⟩ := keeps_set (n := w.heap.size + 1 + 1) (v := .bool false) (hKS.out.1.trans (Keeps.of_below (below_drewN _ _ nq))) (hKS.out.2.below (below_drewN _ _ nq)).mp (by omega) hlt
    have hc5 : (((((w.alloc (.cells #[.pointer (some ⟨S, 0, none⟩)] 189)).alloc (.cells #[.int .i64 i] 3)).alloc (.cells #[.bool false] 4)).drewN nq).setCell ⟨w.heap.size + 1 + 1, 0, none⟩ (.bool false)).cell? ⟨w.heap.size + 1 + 1, 0, none⟩ = some (.bool false) := World.cell?_setCell_same' _ _ _ (by simp [go_sem])
    refine ⟨.bool false, ?_, by rw [hr.out], H.out.keep g1 g2, g1⟩
    simp [results, Try.f200, go_sem, hc5]
  · by_cases h0' : nth b j < 0
    · have hr := Lib.hid (byHt_neg (rk := rkF r) (A := (tmOf a).sub i) (B := (tmOf b).sub j) (.inr (by omega)))
      have hd : decide (nth a i < 0) = false := decide_eq_false h0
      have hd' : decide (nth b j < 0) = true := decide_eq_true h0'
      clear h0 h0'
      gi_wp2_with fail
      gi_quiet (fail)
      gi_wp2_with fail
      have hm3 := hKS.out.2.mp
      obtain ⟨g1, g2⟩ := keeps_set (n := w.heap.size + 1 + 1) (v := .bool false) (hKS.out.1.trans (Keeps.of_below (below_drewN _ _ nq))) (hKS.out.2.below (below_drewN _ _ nq)).mp (by omega) hlt
      have hc5 : (((((w.alloc (.cells #[.pointer (some ⟨S, 0, none⟩)] 189)).alloc (.cells #[.int .i64 i] 3)).alloc (.cells #[.bool false] 4)).drewN nq).setCell ⟨w.heap.size + 1 + 1, 0, none⟩ (.bool false)).cell? ⟨w.heap.size + 1 + 1, 0, none⟩ = some (.bool false) := World.cell?_setCell_same' _ _ _ (by simp [go_sem])
      refine ⟨.bool false, ?_, by rw [hr.out], H.out.keep g1 g2, g1⟩
      simp [results, Try.f200, go_sem, hc5]
    · have hr := Lib.hid (byHt_pos (rk := rkF r) (A := (tmOf a).sub i) (B := (tmOf b).sub j) (by omega) (by omega))
      have hd : decide (nth a i < 0) = false := decide_eq_false h0
      have hd' : decide (nth b j < 0) = false := decide_eq_false h0'
      have h00 := Lib.hid (And.intro h0 h0')
      clear h0 h0'
      gi_wp2_with fail
      gi_quiet (fail)
      gi_wp2_with fail
      refine ⟨trivial, (callsIn_wide.2 (Parts_calls (.slice (some ⟨bb, ob, none⟩) b.length cb) j _ rfl)).mono ?_⟩
      rintro e w' ⟨rfl, rfl⟩
      gi_wp2_with fail
      obtain ⟨W0, hW0⟩ : ∃ W0, W0 = (((((w.alloc (.cells #[.pointer (some ⟨S, 0, none⟩)] 189)).alloc (.cells #[.int .i64 i] 3)).alloc (.cells #[.bool false] 4)).drewN nq).alloc (.cells #[.slice (some ⟨bb, ob, none⟩) b.length cb] 24)).alloc (.cells #[.int .i64 j] 3) := ⟨_, rfl⟩
      rw [← hW0]
      have hz : W0.heap.size = w.heap.size + 5 := by rw [hW0]; simp
      have hB0 : Below w.heap.size w W0 := by rw [hW0]; exact ext_alloc (ext_alloc (ext_trans hB3 (below_drewN _ _ nq)) _) _
      have k0 : W0.cell? ⟨w.heap.size, 0, none⟩ = some (.pointer (some ⟨S, 0, none⟩)) := by rw [hW0]; simp [go_sem]
      have k1 : W0.cell? ⟨w.heap.size + 1, 0, none⟩ = some (.int .i64 i) := by rw [hW0]; simp [go_sem]
      have k2 : W0.cell? ⟨w.heap.size + 1 + 1, 0, none⟩ = some (.bool false) := by rw [hW0]; simp [go_sem]
      have k3 : W0.cell? ⟨w.heap.size + 1 + 1 + 1, 0, none⟩ = some (.slice (some ⟨bb, ob, none⟩) b.length cb) := by rw [hW0]; simp [go_sem]
      have k4 : W0.cell? ⟨w.heap.size + 1 + 1 + 1 + 1, 0, none⟩ = some (.int .i64 j) := by rw [hW0]; simp [go_sem]
      have f2 : W0.frozen? ⟨w.heap.size + 1 + 1, 0, none⟩ = false := by rw [hW0]; simp [go_sem]
      clear hW0 hB3 c1' c1 c2' c2 ci cj hKS
      refine wpIn_rangeFunc_ownG rfl (by omega) (gf := 172) (lb := #[.pointer (some ⟨w.heap.size + 1 + 1 + 1 + 1, 0, none⟩), .pointer (some ⟨w.heap.size + 1 + 1 + 1, 0, none⟩)]) rfl trivial (enters_of Try.func172 (by kernel_rfl) rfl)
        (Parts_stopsM _ (by omega) (w.heap.size + 1 + 1 + 1 + 1) (w.heap.size + 1 + 1 + 1) (fun k => k = Bm ∨ k = w.heap.size + 2 ∨ w.heap.size + 5 ≤ k) b hT.out.2 j hj _ W0 k4 k3 (by omega) (by omega) (by omega)
          (H.out.hb.mono ⟨hB0.size, fun k hk hl => ⟨by omega, hB0.block k hl⟩⟩)) Keeps.trans (keepsK_b (by intro l hl; omega)) (Below.refl _ _) (fun _ => rfl)
        (fun pre W => ((W.cell? ⟨w.heap.size, 0, none⟩ = some (.pointer (some ⟨S, 0, none⟩)) ∧ W.cell? ⟨w.heap.size + 1, 0, none⟩ = some (.int .i64 i) ∧ W.cell? ⟨w.heap.size + 1 + 1, 0, none⟩ = some (.bool false) ∧ W.frozen? ⟨w.heap.size + 1 + 1, 0, none⟩ = false) ∧ (∀ x ∈ pre, GtP r a b i x.1 = true)) ∧
          ((Keeps (fun k => k = Bm) w W ∧ MapOk r a b Bm W) ∧ w.heap.size + 5 ≤ W.heap.size))
        (fun c _ W => ((c = .ret ∧ W.cell? ⟨w.heap.size + 1 + 1, 0, none⟩ = some (.bool false)) ∧ (∃ k ∈ psT b j, GtP r a b i k = false)) ∧ ((Keeps (fun k => k = Bm) w W ∧ MapOk r a b Bm W) ∧ w.heap.size + 5 ≤ W.heap.size))
        (OwnFrom.and (Own.from (fun s A B row hs hg hr => ⟨⟨cell_kept hs.1.1 hg hr, cell_kept hs.1.2.1 hg hr, cell_kept hs.1.2.2.1 hg hr, (frozen_kept hs.1.2.2.1 hg hr).trans hs.1.2.2.2⟩, hs.2⟩) _) (keeps_own (by omega) (by omega)))
        (fun _ => OwnFrom.and (Own.from (fun s A B row hs hg hr => ⟨⟨hs.1.1, cell_kept hs.1.2 hg hr⟩, hs.2⟩) _) (keeps_own (by omega) (by omega)))
        ⟨⟨⟨k0, k1, k2, f2⟩, fun x hx => by cases hx⟩, ⟨.of_below hB0, (H.out.below hB0).mp⟩, by omega⟩
        (fun x => { tmps := #[.pointer (some ⟨S, 0, none⟩), .int .i64 i, .int .i64 j, .pointer (some ⟨w.heap.size, 0, none⟩), .pointer (some ⟨w.heap.size + 1, 0, none⟩), undef, .pointer (some ⟨w.heap.size + 1 + 1, 0, none⟩), .int .i64 x.1, undef, undef, undef, .pointer (some ⟨S, 0, none⟩), .pointer (some ⟨S, 0, none⟩), .pointer (some ⟨S, 1, none⟩), (.slice (some ⟨ba, oa, none⟩) a.length ca), .int .i64 i, .pointer (some ⟨ba, oa + i, none⟩), .int .i64 (nth a i), .bool false, .bool false, .pointer (some ⟨S, 0, none⟩), .pointer (some ⟨S, 0, none⟩), .pointer (some ⟨S, 2, none⟩), (.slice (some ⟨bb, ob, none⟩) b.length cb), .int .i64 j, .pointer (some ⟨bb, ob + j, none⟩), .int .i64 (nth b j), .bool false, .bool false, .pointer (some ⟨S, 0, none⟩), .pointer (some ⟨S, 0, none⟩), .pointer (some ⟨S, 2, none⟩), (.slice (some ⟨bb, ob, none⟩) b.length cb), .int .i64 j, .func (.func 172) #[] #[.pointer (some ⟨w.heap.size + 1 + 1 + 1 + 1, 0, none⟩), .pointer (some ⟨w.heap.size + 1 + 1 + 1, 0, none⟩)], .int .i64 x.1, undef, undef, undef, undef, undef, undef, undef, undef, undef, undef, undef, undef, undef, undef, undef, undef, undef, undef, undef, undef, undef, undef, undef, undef, undef, undef, undef, undef, undef, undef, undef, undef, undef, undef, undef, undef, undef, undef, undef, undef, undef, undef, undef, undef, undef, undef, undef, undef, undef, undef, undef, undef, undef, undef, undef, undef, undef, undef, undef, undef, undef, undef, undef, undef, undef, undef, undef, undef, undef, undef, undef, undef, undef, undef, undef, undef, undef, undef, undef, undef, undef, undef, undef, undef, undef, undef, undef, undef], defers := [] }) ?assign ?body ?done ?stop
      case assign =>
        intro l x W K hK
        gi_wp2
        exact hK
      case body =>
        rintro l pre x W ⟨⟨⟨hc0, hc1, hc2, hf⟩, hno⟩, ⟨hK, hm⟩, hsz⟩ _
        have hS := H.out.keep hK hm
        have hx := hpsb.out x.1 x.2
        have HK := Lib.hid hK
        have hcall := Lib.hid (hI.out x.1 W x.2 hS)
        clear hS hK hm
        cases hg : GtP r a b i x.1
        · rw [hg] at hcall
          gi_wp2_with fail
          refine ⟨trivial, (CallsIn.inRound l (callsIn_wide.2 hcall.out)).mono ?_⟩
          rintro e w2 ⟨rfl, hS2, hKK⟩
          have hc2' : w2.cell? ⟨w.heap.size + 1 + 1, 0, none⟩ = some (.bool false) := keeps_cell hKK (by omega) (by omega) hc2
          have hf' : w2.frozen? ⟨w.heap.size + 1 + 1, 0, none⟩ = false := keeps_frozen hKK (by omega) (by omega) hf
          have HS2 := Lib.hid hS2
          clear hS2 hcall
          gi_wp2_with fail
          obtain ⟨g1, g2⟩ := keeps_set (n := w.heap.size + 1 + 1) (v := .bool false) (HK.out.trans hKK) HS2.out.mp (by omega) hlt
          exact ⟨(keepsFrom_of hKK (by omega)).trans ((KeepsOthers.setCell _ _ _).from _), ⟨⟨rfl, World.cell?_setCell_same' _ _ _ (by rw [hc2']; rfl)⟩, x.1, x.2, hg⟩, ⟨g1, g2⟩, by simp; exact Nat.le_trans hsz hKK.size⟩
        · rw [hg] at hcall
          gi_wp2_with fail
          refine ⟨trivial, (CallsIn.inRound l (callsIn_wide.2 hcall.out)).mono ?_⟩
          rintro e w2 ⟨rfl, hS2, hKK⟩
          have HS2 := Lib.hid hS2
          clear hS2 hcall
          gi_wp2_with fail
          refine ⟨keepsFrom_of hKK (by omega), ⟨hKK.os, hKK.tape, hKK.output, hKK.size, fun k hk hm => hKK.block k hk fun e => hm (.inl e)⟩, ⟨⟨?_, ?_, ?_, ?_⟩, ?_⟩, ⟨HK.out.trans hKK, HS2.out.mp⟩, Nat.le_trans hsz hKK.size⟩
          · exact keeps_cell hKK (by omega) (by omega) hc0
          · exact keeps_cell hKK (by omega) (by omega) hc1
          · exact keeps_cell hKK (by omega) (by omega) hc2
          · exact keeps_frozen hKK (by omega) (by omega) hf
          · intro y hy
            rcases List.mem_append.1 hy with h1 | h1
            · exact hno y h1
            · simp at h1; subst h1; exact hg
      case done =>
        rintro D ys W hD hys ⟨⟨⟨hc0, hc1, hc2, hf⟩, hno⟩, ⟨hK, hm⟩, hsz⟩ hKD
        have hall := Lib.hid (head_all (rk := rkF r) (a := a) (i := i) hT.out.2 hj fun k hk => by
          rw [← hys] at hk
          obtain ⟨x, hx, rfl⟩ := List.mem_map.1 hk
          exact hno x hx)
        clear hno hys
        have hS := H.out.keep hK hm
        have ca1 := hS.c1
        have ca2 := hS.c2
        have cai := hS.ha.any.cell hi
        have cbj := hS.hb.any.cell hj
        by_cases hse : nth a i = nth b j
        · have hne : (nth a i != nth b j) = false := by simpa using hse
          have hsg : Hid ((psT a i).length = (psT b j).length) := by rw [Hid, psT_len, psT_len, hse]
          have hse' := Lib.hid hse
          clear hse
          gi_wp2_with fail
          gi_quiet (fail)
          gi_wp2_with fail
          have hS2 := hS.below (below_drewN _ W nq)
          have hK2 := hK.trans (Keeps.of_below (M := fun k => k = Bm) (below_drewN _ W nq))
          have hKD2 : (W.drewN nq).heap[D]? = some (.deferred (some [])) := hKD
          have hsz2 : w.heap.size + 5 ≤ (W.drewN nq).heap.size := hsz
          have d0 : (W.drewN nq).cell? ⟨w.heap.size, 0, none⟩ = some (.pointer (some ⟨S, 0, none⟩)) := hc0
          have d1 : (W.drewN nq).cell? ⟨w.heap.size + 1, 0, none⟩ = some (.int .i64 i) := hc1
          have d2 : (W.drewN nq).cell? ⟨w.heap.size + 1 + 1, 0, none⟩ = some (.bool false) := hc2
          have df : (W.drewN nq).frozen? ⟨w.heap.size + 1 + 1, 0, none⟩ = false := hf
          clear hS hK hKD hsz hc0 hc1 hc2 hf hm ca1 ca2 cai cbj
          generalize W.drewN nq = W2 at *
          clear W
          have ca1 := hS2.c1
          have ca2 := hS2.c2
          have HS2 := Lib.hid hS2
          have cA : Hid (∀ (Wx wp : World) (n : Nat), Wx.heap.size = n → wp = (Wx.alloc (.cells #[.slice (some ⟨ba, oa, none⟩) a.length ca] 24)).alloc (.cells #[.int .i64 i] 3) → Below W2.heap.size W2 Wx →
              Calls Try.prog 212 #[.func (.func 172) #[] #[.pointer (some ⟨n + 1, 0, none⟩), .pointer (some ⟨n, 0, none⟩)]] wp fun e w' => ∃ x, e = .returned x ∧ IsInts (Fr wp.heap.size) w' x (plI (psT a i)) ∧ Below Wx.heap.size Wx w') := by
            rintro Wx wp n rfl rfl hb
            have hb2 := ext_alloc (ext_alloc hb (.cells #[.slice (some ⟨ba, oa, none⟩) a.length ca] 24)) (.cells #[.int .i64 i] 3)
            have hb3 := ext_alloc (below_alloc Wx (.cells #[.slice (some ⟨ba, oa, none⟩) a.length ca] 24)) (.cells #[.int .i64 i] 3)
            exact (Collect_calls a hT.out.1 i hi (.slice (some ⟨ba, oa, none⟩) a.length ca) _ _ _ (by simp [go_sem]) (by simp [go_sem]) (by simp) (by simp; omega) (HS2.out.ha.any.below hb2)).mono fun e w' ⟨x, h1, h2, h3⟩ => ⟨x, h1, h2, ext_trans hb3 h3⟩
          have cB : Hid (∀ (Wx wp : World) (n : Nat), Wx.heap.size = n → wp = (Wx.alloc (.cells #[.slice (some ⟨bb, ob, none⟩) b.length cb] 24)).alloc (.cells #[.int .i64 j] 3) → Below W2.heap.size W2 Wx →
              Calls Try.prog 212 #[.func (.func 172) #[] #[.pointer (some ⟨n + 1, 0, none⟩), .pointer (some ⟨n, 0, none⟩)]] wp fun e w' => ∃ x, e = .returned x ∧ IsInts (Fr wp.heap.size) w' x (plI (psT b j)) ∧ Below Wx.heap.size Wx w') := by
            rintro Wx wp n rfl rfl hb
            have hb2 := ext_alloc (ext_alloc hb (.cells #[.slice (some ⟨bb, ob, none⟩) b.length cb] 24)) (.cells #[.int .i64 j] 3)
            have hb3 := ext_alloc (below_alloc Wx (.cells #[.slice (some ⟨bb, ob, none⟩) b.length cb] 24)) (.cells #[.int .i64 j] 3)
            exact (Collect_calls b hT.out.2 j hj (.slice (some ⟨bb, ob, none⟩) b.length cb) _ _ _ (by simp [go_sem]) (by simp [go_sem]) (by simp) (by simp; omega) (HS2.out.hb.any.below hb2)).mono fun e w' ⟨x, h1, h2, h3⟩ => ⟨x, h1, h2, ext_trans hb3 h3⟩
          have hcl : Hid (∀ W', Below W2.heap.size W2 W' → W'.cell? ⟨w.heap.size, 0, none⟩ = some (.pointer (some ⟨S, 0, none⟩)) ∧ W'.cell? ⟨w.heap.size + 1, 0, none⟩ = some (.int .i64 i) ∧ W'.cell? ⟨S, 1, none⟩ = some (.slice (some ⟨ba, oa, none⟩) a.length ca) ∧ W'.cell? ⟨S, 2, none⟩ = some (.slice (some ⟨bb, ob, none⟩) b.length cb)) := fun W' h =>
            ⟨(h.cell (p := ⟨w.heap.size, 0, none⟩) (by simp; omega)).trans d0, (h.cell (p := ⟨w.heap.size + 1, 0, none⟩) (by simp; omega)).trans d1, (h.cell (p := ⟨S, 1, none⟩) HS2.out.sl).trans ca1, (h.cell (p := ⟨S, 2, none⟩) HS2.out.sl).trans ca2⟩
          refine wpIn_wide.2 (wp_normal ?_)
          go_region_held3 (fun W' => W'.cell? ⟨w.heap.size, 0, none⟩ = some (.pointer (some ⟨S, 0, none⟩)) ∧ W'.cell? ⟨w.heap.size + 1, 0, none⟩ = some (.int .i64 i) ∧ W'.cell? ⟨S, 1, none⟩ = some (.slice (some ⟨ba, oa, none⟩) a.length ca) ∧ W'.cell? ⟨S, 2, none⟩ = some (.slice (some ⟨bb, ob, none⟩) b.length cb))
            (first | exact hcl.out _ (below_drew _ W2) | exact hcl.out _ hBp1.out | exact hcl.out _ HX1.out.2 | exact hcl.out _ hBp3.out | exact hcl.out _ HY1.out.2.2)
            (first
            | (go_at_call 114; (with_reducible refine (Parts_calls (.slice (some ⟨ba, oa, none⟩) a.length ca) i _ rfl).mono ?_); rintro e wp1 ⟨rfl, hwp1⟩; have C1 := Lib.hid (cA.out W2.drew wp1 W2.heap.size rfl hwp1 (below_drew _ _)); have hBp1 : Hid (Below W2.heap.size W2 wp1) := (by rw [hwp1]; exact ext_alloc (ext_alloc (below_drew _ W2) _) _); clear hwp1)
            | (go_at_call 212; (with_reducible refine C1.out.mono ?_); rintro e wp2 ⟨x1, rfl, hx1, hBx1⟩; obtain ⟨xa, xc, rfl⟩ := hx1.isSlice; have HX1 := Lib.hid (And.intro hx1 (ext_trans (below_drew _ W2) hBx1)); clear hx1 hBx1)
            | (go_at_call 114; (with_reducible refine (Parts_calls (.slice (some ⟨bb, ob, none⟩) b.length cb) j _ rfl).mono ?_); rintro e wp3 ⟨rfl, hwp3⟩; have C2 := Lib.hid (cB.out wp2 wp3 wp2.heap.size rfl hwp3 HX1.out.2); have hBp3 : Hid (Below W2.heap.size W2 wp3) := (by rw [hwp3]; exact ext_alloc (ext_alloc HX1.out.2 _) _); clear hwp3)
            | (go_at_call 212; (with_reducible refine C2.out.mono ?_); rintro e wp4 ⟨y1, rfl, hy1, hBy1⟩; obtain ⟨ya, yc, rfl⟩ := hy1.isSlice; have HY1 := Lib.hid (And.intro hy1 (And.intro hBy1 (ext_trans HX1.out.2 hBy1))); clear hy1 hBy1))
          simp only [onNormal]
          have hx4 := Lib.hid (HX1.out.1.any.below HY1.out.2.1)
          have hy4 := Lib.hid HY1.out.1.any
          have hB4 := Lib.hid HY1.out.2.2
          have hlr : Hid (byHt (rkF r) ((tmOf a).sub i) ((tmOf b).sub j) = lexM (rkF r) ((psT a i).map fun k => (tmOf a).sub k) ((psT b j).map fun k => (tmOf b).sub k)) := by
            rw [Hid, hr.out, hall.out, Bool.true_and, if_neg (by rw [hsgA, hsgB]; simpa using hse'.out), parts_ps hT.out.1 hi, parts_ps hT.out.2 hj]
          clear HX1 HY1 C1 C2 hBp1 hBp3 cA cB hr hall ca1 ca2
          have hplA := plI_len (psT a i)
          have hplB := plI_len (psT b j)
          rw [hplA, hplB]
          have hz4 := hB4.out.size
          gi_wp2_with fail
          gi_loopw [99] (fun k wr => ∃ n : Nat, n ≤ (psT a i).length ∧ k = .int .i64 n ∧ Hid (Below wp4.heap.size wp4 wr ∧ ∀ m (h1 : m < (psT a i).length) (h2 : m < (psT b j).length), m < n → (tmOf a).sub (psT a i)[m] = (tmOf b).sub (psT b j)[m])) (fun k _ => (psT a i).length - (intOf k).toNat)
          case atStart => exact ⟨0, Nat.zero_le _, rfl, .refl _ _, fun m _ _ h => by omega⟩
          case round =>
            obtain ⟨n, hn, rfl, hR⟩ := hrel
            by_cases hnl : n < (psT a i).length
            · have hnl2 : n < (psT b j).length := by rw [← hsg.out]; exact hnl
              have hBr := Lib.hid (ext_trans hB4.out hR.out.1)
              have hS5 := Lib.hid (HS2.out.below hBr.out)
              obtain ⟨xb, xo, xd, e1⟩ := (hx4.out.below hR.out.1).cells (fun e => by rw [← hplA, e] at hnl; simp at hnl)
              rw [hplA] at e1
              cases e1
              obtain ⟨yb, yo, yd, e2⟩ := (hy4.out.below hR.out.1).cells (fun e => by rw [← hplB, e] at hnl2; simp at hnl2)
              rw [hplB] at e2
              cases e2
              have hxc := (hx4.out.below hR.out.1).cell (j := n) (by rw [hplA]; exact hnl)
              have hyc := (hy4.out.below hR.out.1).cell (j := n) (by rw [hplB]; exact hnl2)
              rw [plI_nth hnl] at hxc
              rw [plI_nth hnl2] at hyc
              have p0 := (hBr.out.cell (p := ⟨w.heap.size, 0, none⟩) (by simp; omega)).trans d0
              have hpx := hpsa.out _ (List.getElem_mem hnl)
              have hpy := hpsb.out _ (List.getElem_mem hnl2)
              have hpl2 : (psT a i).length ≤ 2 := by rw [psT_len]; exact ar_le _
              have hn2 : (n : Int) ≤ 2 := by omega
              have hnn : (n : Int) < (psT a i).length := by omega
              have hnn2 : (n : Int) < (psT b j).length := by omega
              have hsame : Hid (∀ q, Calls Try.prog 211 #[.pointer (some ⟨S, 0, none⟩), .int .i64 ((psT a i)[n] : Nat), .int .i64 ((psT b j)[n] : Nat)] (wr.drewN q) fun e w' => e = .returned (.bool (decide ((tmOf a).sub (psT a i)[n] = (tmOf b).sub (psT b j)[n]))) ∧ ∃ m, w' = (wr.drewN q).drewN m) := fun q =>
                same_calls hT.out.1 hT.out.2 (hS5.out.below (below_drewN _ wr q)) hpx.1 hpy.1
              have hab := Lib.hid fun q => hI2.out (psT a i)[n] (psT b j)[n] (wr.drewN q) (List.getElem_mem hnl) (List.getElem_mem hnl2) (hS5.out.below (below_drewN _ wr q))
              have hR2 := Lib.hid hR.out.2
              by_cases hsm : (tmOf a).sub (psT a i)[n] = (tmOf b).sub (psT b j)[n]
              · rw [decide_eq_true hsm] at hsame
                have hsm' := Lib.hid hsm
                clear hsm hab
                have hqx : Hid (∀ (h : n < (psT a i).length), (psT a i)[n] = (psT a i)[n]'hnl) := fun _ => rfl
                have hqy : Hid (∀ (h : n < (psT b j).length), (psT b j)[n] = (psT b j)[n]'hnl2) := fun _ => rfl
                have hsm2 : Hid (∀ (h1 : n < (psT a i).length) (h2 : n < (psT b j).length), (tmOf a).sub (psT a i)[n] = (tmOf b).sub (psT b j)[n]) := fun _ _ => hsm'.out
                clear hqx hqy
                gi_wp2_with fail
                refine wpIn_wide.2 ?_
                go_quiet ((go_at_call 211; exact Calls.quiet_of (hsame.out _)))
                gi_wp2_with fail
                go_roundw
                case rel =>
                  refine ⟨n + 1, by omega, by go_num, ext_trans hR.out.1 (below_drewN _ wr nq), fun m h1 h2 h3 => ?_⟩
                  by_cases e : m = n
                  · subst e; exact hsm2.out h1 h2
                  · exact hR2.out m h1 h2 (by omega)
                case measure => simp [intOf]; omega
              · rw [decide_eq_false hsm] at hsame
                have hres : Hid (byHt (rkF r) ((tmOf a).sub i) ((tmOf b).sub j) = GtP r a b (psT a i)[n] (psT b j)[n]) := by
                  rw [Hid, hlr.out]
                  have := lexM_at (rk := rkF r) (xs := (psT a i).map fun k => (tmOf a).sub k) (ys := (psT b j).map fun k => (tmOf b).sub k) (n := n) (by simpa using hnl) (by simpa using hnl2) (fun m h1 h2 h3 => by simpa using hR2.out m (by simpa using h1) (by simpa using h2) h3) (by simpa using hsm)
                  rw [this]; simp [GtP]
                clear hsm
                generalize (psT a i)[n] = px at *
                generalize (psT b j)[n] = py at *
                gi_wp2_with fail
                refine wpIn_wide.2 ?_
                go_quiet ((go_at_call 211; exact Calls.quiet_of (hsame.out _)))
                gi_wp2_with fail
                refine wpIn_wide.2 ?_
                refine wp_region_still_tail 9 (by kernel_rfl) (by kernel_rfl) ?_
                simp only [List.take_succ_cons, List.take_zero, List.drop_succ_cons, List.drop_zero]
                change wpStill _ _ (wr.drewN (nq + 1)) _ _ _
                repeat still_step
                refine wpStill_nil ?_
                change wpList _ _ _ _ _ (wr.drewN (nq + 1))
                have p2 : (wr.drewN (nq + 1)).cell? ⟨w.heap.size + 1 + 1, 0, none⟩ = some (.bool false) := (hBr.out.cell (p := ⟨w.heap.size + 1 + 1, 0, none⟩) (by simp; omega)).trans d2
                have pf : (wr.drewN (nq + 1)).frozen? ⟨w.heap.size + 1 + 1, 0, none⟩ = false := (World.frozen?_of_block (w := W2) (a := ⟨w.heap.size + 1 + 1, 0, none⟩) (hBr.out.block _ (by simp; omega))).trans df
                have hDl : D < W2.heap.size := (Array.getElem?_eq_some_iff.1 hKD2).1
                have hzr : W2.heap.size ≤ (wr.drewN (nq + 1)).heap.size := hBr.out.size
                have hKD5 : (wr.drewN (nq + 1)).heap[D]? = some (.deferred (some [])) := (hBr.out.block D hDl).trans hKD2
                go_wp2_with fail
                refine (hab.out (nq + 1)).mono ?_
                rintro e w6 ⟨rfl, hS6, hK6⟩
                have q2 := keeps_cell hK6 (by omega) (by omega) p2
                have qf := keeps_frozen hK6 (by omega) (by omega) pf
                have hKD' := (hK6.block D (by omega) (by omega)).trans hKD5
                have HS6 := Lib.hid hS6
                have HK6 := Lib.hid hK6
                clear hS6 hK6
                go_wp2_with fail
                gi_wp2_with fail
                have hK' := (KeepsOthers.setCell w6 ⟨w.heap.size + 1 + 1, 0, none⟩ (.bool (GtP r a b px py))).same D _ hKD' rfl
                obtain ⟨g1, g2⟩ := keeps_set (n := w.heap.size + 1 + 1) (v := .bool (GtP r a b px py)) (hK2.trans ((Keeps.of_below (ext_trans hBr.out (below_drewN _ wr (nq + 1)))).trans HK6.out)) HS6.out.mp (by omega) hlt
                obtain ⟨g3, g4⟩ := keeps_def (D := D) g1 g2 (by omega) hlt (.deferred none)
                refine ⟨by simp, .inl ⟨_, _, rfl, run_takeDeferred hK', ?_⟩⟩
                have hc5 := cell_kept (World.cell?_setCell_same' w6 ⟨w.heap.size + 1 + 1, 0, none⟩ (.bool (GtP r a b px py)) (by rw [q2]; rfl)) (grownBy_putObj' _ D (.deferred none)) (fun r e => by cases e; exact ⟨_, hK', rfl⟩)
                refine ⟨.bool (GtP r a b px py), ?_, by rw [hres.out], H.out.keep g3 g4, g3⟩
                simp [results, Try.f200, go_sem, hc5]
            · obtain rfl : n = (psT a i).length := by omega
              have hres : Hid (byHt (rkF r) ((tmOf a).sub i) ((tmOf b).sub j) = false) := by
                rw [Hid, hlr.out]
                refine lexM_all (by simp; rw [hsg.out]; exact Nat.le_refl _) fun m h1 h2 => ?_
                simpa using hR.out.2 m (by simpa using h1) (by simpa using h2) (by simpa using h1)
              have hBr := Lib.hid (ext_trans hB4.out hR.out.1)
              have hc2 := (hBr.out.cell (p := ⟨w.heap.size + 1 + 1, 0, none⟩) (by simp; omega)).trans d2
              have hf2 : wr.frozen? ⟨w.heap.size + 1 + 1, 0, none⟩ = false := (World.frozen?_of_block (w := W2) (a := ⟨w.heap.size + 1 + 1, 0, none⟩) (hBr.out.block _ (by simp; omega))).trans df
              gi_wp2_with fail
              have hDl : D < W2.heap.size := (Array.getElem?_eq_some_iff.1 hKD2).1
              have hKD' : wr.heap[D]? = some (.deferred (some [])) := (hBr.out.block D hDl).trans hKD2
              have hK' := (KeepsOthers.setCell wr ⟨w.heap.size + 1 + 1, 0, none⟩ (.bool false)).same D _ hKD' rfl
              obtain ⟨g1, g2⟩ := keeps_set (n := w.heap.size + 1 + 1) (v := .bool false) (hK2.trans (Keeps.of_below hBr.out)) (HS2.out.below hBr.out).mp (by omega) hlt
              obtain ⟨g3, g4⟩ := keeps_def (D := D) g1 g2 (by omega) hlt (.deferred none)
              refine ⟨by simp, .inl ⟨_, _, rfl, run_takeDeferred hK', ?_⟩⟩
              have hc5 := cell_kept (World.cell?_setCell_same' wr ⟨w.heap.size + 1 + 1, 0, none⟩ (.bool false) (by rw [hc2]; rfl)) (grownBy_putObj' _ D (.deferred none)) (fun r e => by cases e; exact ⟨_, hK', rfl⟩)
              refine ⟨.bool false, ?_, by rw [hres.out], H.out.keep g3 g4, g3⟩
              simp [results, Try.f200, go_sem, hc5]
        · have hne : (nth a i != nth b j) = true := by simpa using hse
          have hA := (signs_of_chk hT.out.1 _ (nth_mem hi)).2
          have hB := (signs_of_chk hT.out.2 _ (nth_mem hj)).2
          have hA0 : 0 ≤ nth a i := by have := h00.out.1; omega
          have hB0' : 0 ≤ nth b j := by have := h00.out.2; omega
          have cra := hS.hr.any.cell (j := (nth a i).toNat) (by omega)
          have crb := hS.hr.any.cell (j := (nth b j).toNat) (by omega)
          have cr0 := hS.c0
          have hres : Hid (byHt (rkF r) ((tmOf a).sub i) ((tmOf b).sub j) = decide (nth r (nth b j).toNat < nth r (nth a i).toNat)) := by
            rw [Hid, hr.out, hall.out, Bool.true_and, if_pos (by rw [hsgA, hsgB]; exact hse), hsgA, hsgB]; rfl
          clear hse
          rw [hrl] at cr0
          gi_wp2_with fail
          gi_quiet (fail)
          gi_wp2_with fail
          refine wpIn_wide.2 ?_
          refine wp_region_still_tail 27 (by kernel_rfl) (by kernel_rfl) ?_
          simp only [List.take_succ_cons, List.take_zero, List.drop_succ_cons, List.drop_zero]
          change wpStill _ _ (W.drewN (nq + 1)) _ _ _
          repeat still_step
          refine wpStill_nil ?_
          change wpList _ _ _ _ _ (W.drewN (nq + 1))
          go_wp2_with fail
          gi_wp2_with fail
          have hKD' : (W.drewN (nq + 1)).heap[D]? = some (.deferred (some [])) := hKD
          have hK' := (KeepsOthers.setCell (W.drewN (nq + 1)) ⟨w.heap.size + 1 + 1, 0, none⟩ (.bool (decide (nth r (nth b j).toNat < nth r (nth a i).toNat)))).same D _ hKD' rfl
          obtain ⟨g1, g2⟩ := keeps_set (n := w.heap.size + 1 + 1) (v := .bool (decide (nth r (nth b j).toNat < nth r (nth a i).toNat))) (hK.trans (Keeps.of_below (below_drewN _ W (nq + 1)))) (hS.below (below_drewN _ W (nq + 1))).mp (by omega) hlt
          obtain ⟨g3, g4⟩ := keeps_def (D := D) g1 g2 (by omega) hlt (.deferred none)
          refine ⟨by simp, .inl ⟨_, _, rfl, run_takeDeferred hK', ?_⟩⟩
          have hc5 := cell_kept (World.cell?_setCell_same' (W.drewN (nq + 1)) ⟨w.heap.size + 1 + 1, 0, none⟩ (.bool (decide (nth r (nth b j).toNat < nth r (nth a i).toNat))) (by show (W.cell? _).isSome = true; rw [hc2]; rfl)) (grownBy_putObj' _ D (.deferred none)) (fun r e => by cases e; exact ⟨_, hK', rfl⟩)
          refine ⟨.bool (decide (nth r (nth b j).toNat < nth r (nth a i).toNat)), ?_, by rw [hres.out], H.out.keep g3 g4, g3⟩
          simp [results, Try.f200, go_sem, hc5]
      case stop =>
        rintro D c pre W hD _ ⟨⟨⟨rfl, hc2⟩, k, hk, hkk⟩, ⟨hK, hm⟩, hsz⟩ hKD
        have hr2 : byHt (rkF r) ((tmOf a).sub i) ((tmOf b).sub j) = false := by
          rw [hr.out, head_no hT.out.2 hj hk hkk]; rfl
        have hR := Lib.hid hr2
        clear hr2
        gi_wp2_with fail
        obtain ⟨g3, g4⟩ := keeps_def (D := D) hK hm (by omega) hlt (.deferred none)
        refine ⟨by simp, .inl ⟨_, _, rfl, run_takeDeferred hKD, ?_⟩⟩
        have hc5 := cell_kept hc2 (grownBy_putObj' _ D (.deferred none)) (fun r e => by cases e; exact ⟨_, hKD, rfl⟩)
        refine ⟨.bool false, ?_, by rw [hR.out], H.out.keep g3 g4, g3⟩
        simp [results, Try.f200, go_sem, hc5]

end Go.Proofs.Ytepddehodmljeaa
