/- Walks: sub.None, haspref.NoneOf; haspref.SameSubs; sub.After, haspref.AfterOf. -/
import Derived.Test.YtepddehodmljeaaA2
namespace Go.Proofs.Ytepddehodmljeaa
open Go.RowKit

/-- Each variable becomes itself. -/
def noneS : List (List Int) := [[-1], [-2], [-3], [-4], [-5], [-6], [-7], [-8]]
def noneP (k : Nat) : List (List Int) := noneS.take k ++ List.replicate (8 - k) []
theorem noneP_set : ∀ k, k < 8 → (noneP k).set k [-1 - (k : Int)] = noneP (k + 1) := by decide
theorem noneP_len : ∀ k, k < 8 → k < (noneP k).length := by decide
theorem none_take : ∀ k, k < 8 → noneS.take k ++ [[-((k : Int) + 1)]] = noneS.take (k + 1) := by decide
theorem none_take_len : ∀ k, k < 8 → (noneS.take k).length = k := by decide

theorem lit1 (W : World) (base g : Nat) (x : Int) (e : TypeId) (hb : base ≤ W.heap.size) (hg : g < W.heap.size) :
    TermR (Both' (Fr base) fun b => b ≠ g) (W.alloc (.cells #[.int .i64 x] e)) [.slice (some ⟨W.heap.size, 0, none⟩) 1 1] [x] :=
  ⟨_, rfl, (ints_one W x e).mono (.weak fun b h => ⟨Nat.le_trans hb h, by have : W.heap.size ≤ b := h; omega⟩)⟩

set_option maxRecDepth 100000 in
theorem None_calls (w : World) :
    Calls Try.prog 45 #[] w fun e w' => ∃ v, e = .returned v ∧ OwnRow w.heap.size 24 1 TermR (Fr w.heap.size) w' v noneS ∧ Below w.heap.size w w' := by
  obtain ⟨i24, hi, hz, hsz, hby⟩ := info_parts Try.inf24
  go_enter Try.func45, Try.ntmps45
  go_wp2_with (at_make; refine make_rows (R := TermR) _ _ 22 rfl rfl w.heap.size 24 i24 (.slice none 0 0) Try.underlying22 hi hz rfl hsz .i64 .i64 8 rfl rfl (by rw [hby]; decide) (by decide) (Nat.le_refl _) (Fr w.heap.size) [] (fun _ _ => ⟨_, rfl, .nil _ _⟩) ?_; intro w1 hown1 hb1 hlt1)
  have hO1 := Lib.hid hown1
  clear hown1
  go_loopw [6] (fun i wr => ∃ k : Nat, k ≤ 8 ∧ i = .int .i64 k ∧ Hid (OwnRow w.heap.size 24 1 TermR (Fr w.heap.size) wr (.slice (some ⟨w.heap.size, 0, none⟩) 8 8) (noneP k)) ∧ Hid (Below w.heap.size w wr) ∧ w.heap.size < wr.heap.size) (fun i _ => 8 - (intOf i).toNat)
  case atStart => exact ⟨0, by omega, rfl, hO1.out, hb1, hlt1⟩
  case round =>
    clear hO1 hb1 hlt1
    obtain ⟨k, hk, rfl, hO, hB, hlt⟩ := hrel
    by_cases hlt' : k < 8
    · have hO' := Lib.hid (hO.out.below TermR.ok (below_alloc wr (.cells #[.int .i64 (-1 - (k : Int))] 3)))
      have hl1 := Lib.hid (lit1 wr w.heap.size w.heap.size (-1 - (k : Int)) 3 (by omega) hlt)
      have hkl := noneP_len k hlt'
      go_wp2_with ((with_reducible show wpList _ _ _ (Oper.mk none (Op.store _ _ _) _ _ _ _ :: _) _ _); refine store_rows TermR.ok _ _ 24 rfl rfl rfl i24 hi hsz w.heap.size 24 (Fr w.heap.size) w.heap.size k 8 8 (noneP k) rfl hO'.out hkl _ hl1.out rfl ?_; intro w2 hown2 hg2 hz2)
      go_roundw
      case rel =>
        simp at hz2
        refine ⟨k + 1, by omega, by go_num, by rw [← noneP_set k hlt']; exact hown2, ?_, by omega⟩
        exact (hB.out.alloc (by omega) _).grown hg2 (by simp; omega) (fun j hj => by cases hj; exact Nat.le_refl _)
      case measure => simp [intOf]; omega
    · have : k = 8 := by omega
      subst this
      go_wp2_with fail
      go_ret
      exact ⟨_, rfl, hO.out, hB.out⟩

set_option maxRecDepth 100000 in
theorem NoneOf_calls (w : World) :
    Calls Try.prog 104 #[] w fun e w' => ∃ v, e = .returned v ∧ OwnRow w.heap.size 24 1 TermR (Fr w.heap.size) w' v noneS ∧ Below w.heap.size w w' := by
  obtain ⟨i24, hi, hz, hsz, hby⟩ := info_parts Try.inf24
  go_enter Try.func104, Try.ntmps104
  go_wp2_with fail
  go_loopw [1, 2] (fun out i wr => ∃ k : Nat, k ≤ 8 ∧ i = .int .i64 (k + 1) ∧ Hid (OwnRow w.heap.size 24 1 TermR (Fr w.heap.size) wr out (noneS.take k)) ∧ Hid (Below w.heap.size w wr)) (fun _ i _ => 9 - (intOf i).toNat)
  case atStart => exact ⟨0, by omega, rfl, OwnRow.nil _ _ _ _, .refl _ _⟩
  case round =>
    obtain ⟨k, hk, rfl, hO, hB⟩ := hrel
    by_cases hlt' : k < 8
    · have hO' := Lib.hid (hO.out.below TermR.ok (below_alloc wr (.cells #[.int .i64 (-((k : Int) + 1))] 3)))
      have hsize := hB.out.size
      have hl1 : Hid (TermR (Both' (Fr w.heap.size) (Off u1)) (wr.alloc (.cells #[.int .i64 (-((k : Int) + 1))] 3)) [.slice (some ⟨wr.heap.size, 0, none⟩) 1 1] [-((k : Int) + 1)]) :=
        ⟨_, rfl, (ints_one wr (-((k : Int) + 1)) 3).mono (.weak fun b h => ⟨Nat.le_trans hsize h, fun hv => by have h1 := (hO.out.block b hv).2; have h2 : wr.heap.size ≤ b := h; omega⟩)⟩
      go_wp2_with (at_builtin; refine app_one TermR.ok _ _ 22 rfl rfl w.heap.size 24 i24 (.slice none 0 0) 24 Try.underlying22 hi hz hsz hby rfl (by decide) hO'.out (us := [.slice (some ⟨wr.heap.size, 0, none⟩) 1 1]) (y := [-((k : Int) + 1)]) rfl ?c5 rfl ?c1 hl1.out ?c2 (by decide) ?c3 ?c4; rotate_left 4; intro v' w2 hown2 hb2 hk2 _)
      case c5 => simp
      case c1 => intro u hu; simp at hu; subst hu; rfl
      case c2 => rw [none_take_len k hlt']; omega
      case c3 => simp; omega
      go_roundw
      case rel =>
        refine ⟨k + 1, by omega, by go_num, by rw [none_take k hlt'] at hown2; exact hown2, ?_⟩
        exact (hB.out.alloc (by omega) _).trans hb2
      case measure => simp [intOf]; omega
    · have : k = 8 := by omega
      subst this
      go_wp2_with fail
      go_ret
      exact ⟨_, rfl, hO.out, hB.out⟩

theorem terms_drewN {S : Blk} {w : World} {n : Nat} {v : Value} {t : List Int} (h : IsInts S w v t) : IsInts S (w.drewN n) v t := h.below (below_drewN _ _ _)

theorem SameSubs_calls (s t : List (List Int)) (u v : Value) (w : World) (hu : IsTerms Any w u s) (hv : IsTerms Any w v t) :
    Calls Try.prog 44 #[u, v] w fun e w' => e = .returned (.bool (decide (s = t))) ∧ ∃ n, w' = w.drewN n := by
  obtain ⟨a, c, rfl⟩ := hu.isSlice
  obtain ⟨a', c', rfl⟩ := hv.isSlice
  by_cases hl : s.length = t.length
  · obtain ⟨hlen, ⟨rfl, a1, c1, e1, -⟩ | ⟨hne, b, o, c, e1, -, -, hlt, cs, he, hc⟩⟩ := hu
    · cases e1
      obtain rfl : t = [] := List.eq_nil_of_length_eq_zero (by simpa using hl.symm)
      clear hv hl
      go_enter Try.func44, Try.ntmps44
      go_wp2_with fail
      refine wp_loop_rounds 1 ?_
      rw [rounds_succ]
      go_wp2_with fail
      go_ret
      exact ⟨rfl, 0, rfl⟩
    · cases e1
      obtain ⟨hlen2, ⟨rfl, -⟩ | ⟨hne2, b2, o2, c2, e2, -, -, hlt2, cs2, he2, hc2⟩⟩ := hv
      · exact absurd (List.eq_nil_of_length_eq_zero hl) hne
      cases e2
      rw [← hl]
      have hL := Lib.hid hl
      have hT : Hid (∀ j, j < s.length → ∃ u, w.cell? ⟨b, o + j, none⟩ = some u ∧ IsInts Any w u (nthT s j)) := fun j hj => terms_cell he hc hj
      have hT2 : Hid (∀ j, j < s.length → ∃ u, w.cell? ⟨b2, o2 + j, none⟩ = some u ∧ IsInts Any w u (nthT t j)) := fun j hj => terms_cell he2 hc2 (by rw [← hl]; exact hj)
      clear hl he hc he2 hc2 hne hne2
      go_enter Try.func44, Try.ntmps44
      go_wp2_with fail
      go_loopw [5] (fun i wr => ∃ k : Nat, k ≤ s.length ∧ i = .int .i64 k ∧ (∀ j, j < k → nthT s j = nthT t j) ∧ Hid (∃ n, wr = w.drewN n)) (fun i _ => s.length - (intOf i).toNat)
      case atStart => exact ⟨0, Nat.zero_le _, rfl, fun _ h => by omega, 0, rfl⟩
      case round =>
        obtain ⟨k, hk, rfl, hp, hW⟩ := hrel
        have hsame : ∀ p : Addr, wr.cell? p = w.cell? p := by intro p; obtain ⟨n, rfl⟩ := hW.out; rfl
        have hbel : Below w.heap.size w wr := by obtain ⟨n, rfl⟩ := hW.out; exact below_drewN _ _ _
        have hP := Lib.hid hp
        clear hp
        by_cases hlt' : k < s.length
        · obtain ⟨x, hcell, hx⟩ := hT.out k hlt'
          obtain ⟨y, hcell2, hy⟩ := hT2.out k hlt'
          rw [← hsame] at hcell hcell2
          have hX := Lib.hid (hx.below hbel)
          have hY := Lib.hid (hy.below hbel)
          clear hsame hbel
          have hi : (k : Int) < s.length := by omega
          clear hx hy
          by_cases hx : nthT s k = nthT t k
          · have hx' : decide (nthT s k = nthT t k) = true := by simpa using hx
            have hS := Lib.hid (fun m => SameTerms_calls _ _ x y (wr.drewN m) (terms_drewN hX.out) (terms_drewN hY.out))
            rw [hx'] at hS
            have hE := Lib.hid hx
            clear hx hx'
            go_wp2_with fail
            go_quiet ((go_at_call 39; exact Calls.quiet_of (hS.out _)))
            go_wp2_with fail
            go_roundw
            case rel =>
              refine ⟨k + 1, by omega, by go_num, fun j hj => ?_, by obtain ⟨n, rfl⟩ := hW.out; exact ⟨_, drewN_add _ _ _⟩⟩
              by_cases e : j = k
              · subst e; exact hE.out
              · exact hP.out j (by omega)
            case measure => simp [intOf]; omega
          · have hx' : decide (nthT s k = nthT t k) = false := by simpa using hx
            have hS := Lib.hid (fun m => SameTerms_calls _ _ x y (wr.drewN m) (terms_drewN hX.out) (terms_drewN hY.out))
            rw [hx'] at hS
            have hfin : Hid (s ≠ t) := by rintro rfl; exact hx rfl
            clear hx hx'
            go_wp2_with fail
            go_quiet ((go_at_call 39; exact Calls.quiet_of (hS.out _)))
            go_wp2_with fail
            go_ret
            exact ⟨ret_bool (decide_eq_false hfin.out).symm, by obtain ⟨n, rfl⟩ := hW.out; exact ⟨_, drewN_add _ _ _⟩⟩
        · have hkl : k = s.length := by omega
          subst hkl
          have hfin : Hid (s = t) := extT hL.out hP.out
          clear hsame hbel
          go_wp2_with fail
          go_ret
          exact ⟨ret_bool (decide_eq_true hfin.out).symm, hW.out⟩
  · have hfin : Hid (s ≠ t) := by rintro rfl; exact hl rfl
    have hl' : ((s.length : Int) != t.length) = true := by rw [bne_iff_ne]; omega
    clear hu hv hl
    go_enter Try.func44, Try.ntmps44
    go_wp2_with fail
    go_ret
    exact ⟨ret_bool (decide_eq_false hfin.out).symm, 0, rfl⟩

end Go.Proofs.Ytepddehodmljeaa
