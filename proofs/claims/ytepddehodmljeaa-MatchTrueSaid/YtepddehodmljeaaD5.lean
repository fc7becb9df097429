/- Walks: sub.After, haspref.AfterOf. -/
import Derived.Test.YtepddehodmljeaaD4
namespace Go.Proofs.Ytepddehodmljeaa
open Go.RowKit

/-- What comes of After before it is asked how large it is. -/
def aft (s u : List (List Int)) : List (List Int) := s.map (app u)
def bigL : List (List Int) → Bool := fun l => l.any fun t => decide (30 < t.length)
def afterE (s u : List (List Int)) : Int := if chkS s ≠ 0 then chkS s else if chkS u ≠ 0 then chkS u else if bigL (aft s u) then 2 else 0
def afterT (s u : List (List Int)) : List (List Int) := if afterE s u = 0 then aft s u else []

theorem after_s {s u : List (List Int)} (h : chkS s ≠ 0) : afterE s u = chkS s ∧ afterT s u = [] := by
  have : afterE s u = chkS s := by rw [afterE, if_pos h]
  exact ⟨this, by rw [afterT, this, if_neg h]⟩
theorem after_u {s u : List (List Int)} (h : chkS s = 0) (h2 : chkS u ≠ 0) : afterE s u = chkS u ∧ afterT s u = [] := by
  have : afterE s u = chkS u := by rw [afterE, if_neg (by simpa using h), if_pos h2]
  exact ⟨this, by rw [afterT, this, if_neg h2]⟩
theorem after_big {s u : List (List Int)} (h : chkS s = 0) (h2 : chkS u = 0) (h3 : bigL (aft s u) = true) : afterE s u = 2 ∧ afterT s u = [] := by
  have : afterE s u = 2 := by rw [afterE, if_neg (by simpa using h), if_neg (by simpa using h2), if_pos h3]
  exact ⟨this, by rw [afterT, this, if_neg (by omega)]⟩
theorem after_ok {s u : List (List Int)} (h : chkS s = 0) (h2 : chkS u = 0) (h3 : bigL (aft s u) = false) : afterE s u = 0 ∧ afterT s u = aft s u := by
  have : afterE s u = 0 := by rw [afterE, if_neg (by simpa using h), if_neg (by simpa using h2), h3]; rfl
  exact ⟨this, by rw [afterT, this, if_pos rfl]⟩

theorem takeT {s : List (List Int)} {k : Nat} (hk : k < s.length) (f : List Int → List Int) : (s.take k).map f ++ [f (nthT s k)] = (s.take (k + 1)).map f := by
  rw [nthT_eq hk, List.take_succ_eq_append_getElem hk, List.map_append]; rfl
theorem big_at {s u : List (List Int)} {k : Nat} (hk : k < s.length) (h : 30 < (app u (nthT s k)).length) : bigL (aft s u) = true := by
  rw [bigL, List.any_eq_true]
  exact ⟨_, List.mem_map.2 ⟨_, nthT_mem hk, rfl⟩, by simpa using h⟩
theorem big_none {s u : List (List Int)} (h : ∀ k, k < s.length → (app u (nthT s k)).length ≤ 30) : bigL (aft s u) = false := by
  rw [bigL, List.any_eq_false]
  intro x hx
  obtain ⟨t, ht, rfl⟩ := List.mem_map.1 hx
  obtain ⟨j, hj, rfl⟩ := List.getElem_of_mem ht
  have := h j hj
  rw [nthT_eq hj] at this
  simp; omega

set_option maxRecDepth 100000 in
set_option maxHeartbeats 1000000 in
theorem After_calls (s u : List (List Int)) (x y : Value) (w : World) (hx : IsTerms Any w x s) (hy : IsTerms Any w y u) :
    Calls Try.prog 40 #[x, y] w fun e w' => ∃ z, e = .returned (.tuple #[z, .int .i64 (afterE s u)]) ∧ IsTerms (Fr w.heap.size) w' z (afterT s u) ∧ Below w.heap.size w w' := by
  obtain ⟨i24, hi, hz, hsz, hby⟩ := info_parts Try.inf24
  obtain ⟨a, c, rfl⟩ := hx.isSlice
  obtain ⟨a', c', rfl⟩ := hy.isSlice
  have h1 := Lib.hid (SubCheck_calls s _ (w.alloc (.cells #[.slice a s.length c, .slice a' u.length c'] 22)) (hx.below TermR.ok (below_alloc w _)))
  have h2 := Lib.hid (SubCheck_calls u _ (w.alloc (.cells #[.slice a s.length c, .slice a' u.length c'] 22)) (hy.below TermR.ok (below_alloc w _)))
  by_cases hs : chkS s = 0
  · by_cases hu : chkS u = 0
    · have hS := chkS_zero.1 hs
      have hU := chkS_zero.1 hu
      have hX := Lib.hid hx
      have hY := Lib.hid hy
      have hSl := Lib.hid hS.1
      have hcells : Hid (∀ W, Below w.heap.size w W → ∀ j, j < 8 → ∃ b o v, a = some ⟨b, o, none⟩ ∧ W.cell? ⟨b, o + j, none⟩ = some v ∧ IsInts Any W v (nthT s j)) := by
        intro W hW j hj
        obtain ⟨-, ⟨rfl, -⟩ | ⟨-, b, o, c, e, -, -, hlt, cs, he, hc⟩⟩ := hx.below TermR.ok hW
        · simp [RightS] at hS
        · cases e
          obtain ⟨v, h1, h2⟩ := terms_cell he hc (j := j) (by rw [hS.1]; exact hj)
          exact ⟨b, o, v, rfl, h1, h2⟩
      have hby' : Hid (∀ W, Below w.heap.size w W → ∀ j v, j < 8 → IsInts Any W v (nthT s j) → Calls Try.prog 100 #[.slice a' u.length c', v] W fun e W' => ∃ x, e = .returned x ∧ IsInts (Fr W.heap.size) W' x (app u (nthT s j)) ∧ Below W.heap.size W W') := by
        intro W hW j v hj hv
        have hr := hS.2 _ (nthT_mem (ts := s) (j := j) (by rw [hS.1]; exact hj))
        exact By_calls u (nthT s j) _ v W hU (signs_of_chk hr) (by have := len_of_chk hr; omega) (hy.below TermR.ok hW) hv
      have hlarge : Hid (∀ j, j < 8 → 30 < (app u (nthT s j)).length → afterE s u = 2 ∧ afterT s u = []) := fun j hj h => after_big hs hu (big_at (by rw [hS.1]; exact hj) h)
      have hok : Hid ((∀ j, j < 8 → (app u (nthT s j)).length ≤ 30) → afterE s u = 0 ∧ afterT s u = aft s u) := fun h => after_ok hs hu (big_none fun k hk => h k (by rw [← hS.1]; exact hk))
      obtain ⟨b0, o0, _, ha, _, _⟩ := hcells.out w (.refl _ _) 0 (by omega)
      subst ha
      have hsl := hS.1
      rw [hsl] at h1 h2 ⊢
      clear hx hy hS hU hsl
      go_enter Try.func40, Try.ntmps40
      go_wp2_with fail
      refine wp_loop_rounds 3 ?_
      rw [rounds_succ]
      go_wp2_with fail
      refine h1.out.mono ?_
      rintro e w' ⟨rfl, rfl⟩
      go_wp2_with fail
      rw [rounds_succ]
      go_wp2_with fail
      refine h2.out.mono ?_
      rintro e w' ⟨rfl, rfl⟩
      clear h1 h2
      go_wp2_with fail
      rw [rounds_succ]
      have hs := Lib.hid hs
      have hu := Lib.hid hu
      go_wp2_with (at_make; refine wpList_make_own _ rfl _ _ 22 rfl w.heap.size 24 i24 (.slice none 0 0) 1 Try.underlying22 hi hz hsz .i64 .i64 8 8 rfl rfl rfl ?m1 (by decide) ?m2 ?m3; rotate_left 2; intro w1 hown1 hg1)
      case m1 => rw [hby]; decide
      case m2 => simp
      have hO1 : Hid (OwnRow w.heap.size 24 1 TermR (Fr w.heap.size) w1 (.slice (some ⟨(w.alloc (.cells #[.slice (some ⟨b0, o0, none⟩) 8 c, .slice a' u.length c'] 22)).heap.size, 0, none⟩) 0 8) []) := ⟨[], rfl, hown1⟩
      have hB1 : Hid (Below w.heap.size w w1) := ((below_alloc w _).trans ((below_of_grown hg1 (by simp) (fun k hk => by cases hk)).mono (Nat.le_refl _)))
      clear hown1 hg1
      go_loopw [9, 31] (fun out i wr => ∃ k : Nat, k ≤ 8 ∧ i = .int .i64 k ∧ Hid (OwnRow w.heap.size 24 1 TermR (Fr w.heap.size) wr out ((s.take k).map (app u))) ∧ Hid (Below w.heap.size w wr) ∧ Hid (∀ j, j < k → (app u (nthT s j)).length ≤ 30)) (fun _ i _ => 8 - (intOf i).toNat)
      case atStart => exact ⟨0, by omega, rfl, by show OwnRow _ _ _ _ _ _ _ _; simpa using hO1.out, hB1.out, fun j hj => by omega⟩
      case round =>
        clear hO1 hB1
        obtain ⟨k, hk, rfl, hO, hB, hP⟩ := hrel
        by_cases hlt' : k < 8
        · obtain ⟨b, o, v, hbo, hcell, hv⟩ := hcells.out wr hB.out k hlt'
          cases hbo
          have hcall := Lib.hid (hby'.out wr hB.out k v hlt' hv)
          clear hv
          by_cases hbig : 30 < (app u (nthT s k)).length
          · have hr := Lib.hid (hlarge.out k hlt' hbig)
            go_wp2_with fail
            refine hcall.out.mono ?_
            rintro e w2 ⟨x, rfl, hx, hB2⟩
            go_wp2_with fail
            refine (Fits_big _ _ _ hx.any hbig).mono ?_
            rintro e w' ⟨rfl, rfl⟩
            go_wp2_with fail
            go_ret2
            exact ⟨_, by rw [hr.out.1]; rfl, by rw [hr.out.2]; exact .nil _ _, hB.out.trans (hB2.mono hB.out.size)⟩
          · have hle : (app u (nthT s k)).length ≤ 30 := by omega
            have hL := Lib.hid hle
            clear hbig hle
            go_wp2_with fail
            refine hcall.out.mono ?_
            rintro e w2 ⟨x, rfl, hx, hB2⟩
            have hX2 := Lib.hid hx
            have hB2' := Lib.hid hB2
            clear hx hB2
            go_wp2_with fail
            refine (Fits_ok _ _ _ hX2.out.any hL.out).mono ?_
            rintro e w' ⟨rfl, rfl⟩
            obtain ⟨ax, cx, rfl⟩ := hX2.out.isSlice
            have hO2 := Lib.hid (hO.out.below TermR.ok hB2'.out)
            have hel : Hid (TermR (Both' (Fr w.heap.size) (Off u9)) w2 [.slice ax (app u (nthT s k)).length cx] (app u (nthT s k))) :=
              ⟨_, rfl, hX2.out.mono (.weak fun b h => ⟨Nat.le_trans hB.out.size h, fun hv => by have h1 := (hO.out.block b hv).2; have h2 : wr.heap.size ≤ b := h; omega⟩)⟩
            have hsize : w.heap.size ≤ w2.heap.size := (hB.out.trans (hB2'.out.mono hB.out.size)).size
            go_wp2_with (at_builtin; refine app_one TermR.ok _ _ 22 rfl rfl w.heap.size 24 i24 (.slice none 0 0) 24 Try.underlying22 hi hz hsz hby rfl (by decide) hO2.out (us := [.slice ax (app u (nthT s k)).length cx]) (y := app u (nthT s k)) rfl rfl rfl ?c1 hel.out ?c2 (by decide) hsize ?c4; rotate_left 2; intro v' w3 hown3 hb3 hk3 _)
            case c1 => intro z hz; simp at hz; subst hz; rfl
            case c2 => rw [List.length_map, List.length_take]; omega
            go_roundw
            case rel =>
              refine ⟨k + 1, by omega, by go_num, ?_, (hB.out.trans (hB2'.out.mono hB.out.size)).trans hb3, fun j hj => ?_⟩
              · rw [takeT (by rw [hSl.out]; exact hlt')] at hown3; exact hown3
              · by_cases e : j = k
                · subst e; exact hL.out
                · exact hP.out j (by omega)
            case measure => simp [intOf]; omega
        · have : k = 8 := by omega
          subst this
          have hr := Lib.hid (hok.out hP.out)
          go_wp2_with fail
          go_ret2
          refine ⟨_, by rw [hr.out.1]; rfl, ?_, hB.out⟩
          rw [hr.out.2]
          have := hO.out
          rw [List.take_of_length_le (by rw [hSl.out]; exact Nat.le_refl _)] at this
          exact this.isRow TermR.ok (fun _ h => h) (fun _ h => h) (by rw [List.length_map, hSl.out]; omega)
    · have hr := Lib.hid (after_u hs hu)
      have hu' : (chkS u != 0) = true := by simpa using hu
      clear hx hy hu
      go_enter Try.func40, Try.ntmps40
      go_wp2_with fail
      refine wp_loop_rounds 3 ?_
      rw [rounds_succ]
      go_wp2_with fail
      refine h1.out.mono ?_
      rintro e w' ⟨rfl, rfl⟩
      go_wp2_with fail
      rw [rounds_succ]
      go_wp2_with fail
      refine h2.out.mono ?_
      rintro e w' ⟨rfl, rfl⟩
      clear h1 h2
      go_wp2_with fail
      go_ret2
      exact ⟨_, by rw [hr.out.1]; rfl, by rw [hr.out.2]; exact .nil _ _, below_alloc _ _⟩
  · have hr := Lib.hid (after_s (u := u) hs)
    have hs' : (chkS s != 0) = true := by simpa using hs
    clear hx hy hs
    go_enter Try.func40, Try.ntmps40
    go_wp2_with fail
    refine wp_loop_rounds 3 ?_
    rw [rounds_succ]
    go_wp2_with fail
    refine h1.out.mono ?_
    rintro e w' ⟨rfl, rfl⟩
    clear h1 h2
    go_wp2_with fail
    go_ret2
    exact ⟨_, by rw [hr.out.1]; rfl, by rw [hr.out.2]; exact .nil _ _, below_alloc _ _⟩

set_option maxRecDepth 100000 in
set_option maxHeartbeats 1000000 in
theorem AfterOf_calls (s u : List (List Int)) (x y : Value) (w : World) (hx : IsTerms Any w x s) (hy : IsTerms Any w y u) :
    Calls Try.prog 42 #[x, y] w fun e w' => ∃ z, e = .returned (.tuple #[z, .int .i64 (afterE s u)]) ∧ IsTerms (Fr w.heap.size) w' z (afterT s u) ∧ Below w.heap.size w w' := by
  obtain ⟨i24, hi, hz, hsz, hby⟩ := info_parts Try.inf24
  obtain ⟨a, c, rfl⟩ := hx.isSlice
  obtain ⟨a', c', rfl⟩ := hy.isSlice
  have h1 := Lib.hid (SubError_calls s _ w hx)
  have h2 := Lib.hid (SubError_calls u _ w hy)
  by_cases hs : chkS s = 0
  · by_cases hu : chkS u = 0
    · have hS := chkS_zero.1 hs
      have hU := chkS_zero.1 hu
      have hX := Lib.hid hx
      have hY := Lib.hid hy
      have hSl := Lib.hid hS.1
      have hcells : Hid (∀ W, Below w.heap.size w W → ∀ j, j < 8 → ∃ b o v, a = some ⟨b, o, none⟩ ∧ W.cell? ⟨b, o + j, none⟩ = some v ∧ IsInts Any W v (nthT s j)) := by
        intro W hW j hj
        obtain ⟨-, ⟨rfl, -⟩ | ⟨-, b, o, c, e, -, -, hlt, cs, he, hc⟩⟩ := hx.below TermR.ok hW
        · simp [RightS] at hS
        · cases e
          obtain ⟨v, h1, h2⟩ := terms_cell he hc (j := j) (by rw [hS.1]; exact hj)
          exact ⟨b, o, v, rfl, h1, h2⟩
      have hby' : Hid (∀ W, Below w.heap.size w W → ∀ j v, j < 8 → IsInts Any W v (nthT s j) → Calls Try.prog 101 #[.slice a' u.length c', v] W fun e W' => ∃ x, e = .returned x ∧ IsInts (Fr W.heap.size) W' x (app u (nthT s j)) ∧ Below W.heap.size W W') := by
        intro W hW j v hj hv
        have hr := hS.2 _ (nthT_mem (ts := s) (j := j) (by rw [hS.1]; exact hj))
        exact applied_calls u (nthT s j) _ v W hU (signs_of_chk hr) (by have := len_of_chk hr; omega) (hy.below TermR.ok hW) hv
      have hlarge : Hid (∀ j, j < 8 → 30 < (app u (nthT s j)).length → afterE s u = 2 ∧ afterT s u = []) := fun j hj h => after_big hs hu (big_at (by rw [hS.1]; exact hj) h)
      have hok : Hid ((∀ j, j < 8 → (app u (nthT s j)).length ≤ 30) → afterE s u = 0 ∧ afterT s u = aft s u) := fun h => after_ok hs hu (big_none fun k hk => h k (by rw [← hS.1]; exact hk))
      obtain ⟨b0, o0, _, ha, _, _⟩ := hcells.out w (.refl _ _) 0 (by omega)
      subst ha
      have hsl := hS.1
      rw [hsl] at h1 ⊢
      clear hx hy hS hU hsl
      go_enter Try.func42, Try.ntmps42
      go_wp2_with fail
      refine h1.out.mono ?_
      rintro e w' ⟨rfl, rfl⟩
      go_wp2_with fail
      refine h2.out.mono ?_
      rintro e w' ⟨rfl, rfl⟩
      clear h1 h2
      have hs := Lib.hid hs
      have hu := Lib.hid hu
      go_wp2_with fail
      go_loopw [8, 9] (fun out i wr => ∃ k : Nat, k ≤ 8 ∧ i = .int .i64 k ∧ Hid (OwnRow w.heap.size 24 1 TermR (Fr w.heap.size) wr out ((s.take k).map (app u))) ∧ Hid (Below w.heap.size w wr) ∧ Hid (∀ j, j < k → (app u (nthT s j)).length ≤ 30)) (fun _ i _ => 8 - (intOf i).toNat)
      case atStart => exact ⟨0, by omega, rfl, by show OwnRow _ _ _ _ _ _ _ _; simpa using OwnRow.nil _ _ _ _, .refl _ _, fun j hj => by omega⟩
      case round =>
        obtain ⟨k, hk, rfl, hO, hB, hP⟩ := hrel
        by_cases hlt' : k < 8
        · obtain ⟨b, o, v, hbo, hcell, hv⟩ := hcells.out wr hB.out k hlt'
          cases hbo
          have hcall := Lib.hid (hby'.out wr hB.out k v hlt' hv)
          clear hv
          by_cases hbig : 30 < (app u (nthT s k)).length
          · have hr := Lib.hid (hlarge.out k hlt' hbig)
            go_wp2_with fail
            refine hcall.out.mono ?_
            rintro e w2 ⟨x, rfl, hx, hB2⟩
            obtain ⟨ax, cx, rfl⟩ := hx.isSlice
            have hbig' : 30 < ((app u (nthT s k)).length : Int) := by omega
            clear hx hbig
            go_wp2_with fail
            go_ret2
            exact ⟨_, by rw [hr.out.1]; rfl, by rw [hr.out.2]; exact .nil _ _, hB.out.trans (hB2.mono hB.out.size)⟩
          · have hle : (app u (nthT s k)).length ≤ 30 := by omega
            have hL := Lib.hid hle
            clear hbig hle
            go_wp2_with fail
            refine hcall.out.mono ?_
            rintro e w2 ⟨x, rfl, hx, hB2⟩
            have hX2 := Lib.hid hx
            have hB2' := Lib.hid hB2
            have hle' : ((app u (nthT s k)).length : Int) ≤ 30 := by have := hL.out; omega
            clear hx hB2
            obtain ⟨ax, cx, rfl⟩ := hX2.out.isSlice
            have hO2 := Lib.hid (hO.out.below TermR.ok hB2'.out)
            have hel : Hid (TermR (Both' (Fr w.heap.size) (Off u8)) w2 [.slice ax (app u (nthT s k)).length cx] (app u (nthT s k))) :=
              ⟨_, rfl, hX2.out.mono (.weak fun b h => ⟨Nat.le_trans hB.out.size h, fun hv => by have h1 := (hO.out.block b hv).2; have h2 : wr.heap.size ≤ b := h; omega⟩)⟩
            have hsize : w.heap.size ≤ w2.heap.size := (hB.out.trans (hB2'.out.mono hB.out.size)).size
            go_wp2_with (at_builtin; refine app_one TermR.ok _ _ 22 rfl rfl w.heap.size 24 i24 (.slice none 0 0) 24 Try.underlying22 hi hz hsz hby rfl (by decide) hO2.out (us := [.slice ax (app u (nthT s k)).length cx]) (y := app u (nthT s k)) rfl rfl rfl ?c1 hel.out ?c2 (by decide) hsize ?c4; rotate_left 2; intro v' w3 hown3 hb3 hk3 _)
            case c1 => intro z hz; simp at hz; subst hz; rfl
            case c2 => rw [List.length_map, List.length_take]; omega
            go_roundw
            case rel =>
              refine ⟨k + 1, by omega, by go_num, ?_, (hB.out.trans (hB2'.out.mono hB.out.size)).trans hb3, fun j hj => ?_⟩
              · rw [takeT (by rw [hSl.out]; exact hlt')] at hown3; exact hown3
              · by_cases e : j = k
                · subst e; exact hL.out
                · exact hP.out j (by omega)
            case measure => simp [intOf]; omega
        · have : k = 8 := by omega
          subst this
          have hr := Lib.hid (hok.out hP.out)
          go_wp2_with fail
          go_ret2
          refine ⟨_, by rw [hr.out.1]; rfl, ?_, hB.out⟩
          rw [hr.out.2]
          have := hO.out
          rw [List.take_of_length_le (by rw [hSl.out]; exact Nat.le_refl _)] at this
          exact this.isRow TermR.ok (fun _ h => h) (fun _ h => h) (by rw [List.length_map, hSl.out]; omega)
    · have hr := Lib.hid (after_u hs hu)
      have hu' : (chkS u != 0) = true := by simpa using hu
      clear hx hy hu
      go_enter Try.func42, Try.ntmps42
      go_wp2_with fail
      refine h1.out.mono ?_
      rintro e w' ⟨rfl, rfl⟩
      go_wp2_with fail
      refine h2.out.mono ?_
      rintro e w' ⟨rfl, rfl⟩
      clear h1 h2
      go_wp2_with fail
      go_ret2
      exact ⟨_, by rw [hr.out.1]; rfl, by rw [hr.out.2]; exact .nil _ _, .refl _ _⟩
  · have hr := Lib.hid (after_s (u := u) hs)
    have hs' : (chkS s != 0) = true := by simpa using hs
    clear hx hy hs
    go_enter Try.func42, Try.ntmps42
    go_wp2_with fail
    refine h1.out.mono ?_
    rintro e w' ⟨rfl, rfl⟩
    clear h1 h2
    go_wp2_with fail
    go_ret2
    exact ⟨_, by rw [hr.out.1]; rfl, by rw [hr.out.2]; exact .nil _ _, .refl _ _⟩

end Go.Proofs.Ytepddehodmljeaa
