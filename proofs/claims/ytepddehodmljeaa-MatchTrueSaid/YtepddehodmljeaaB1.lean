/- Walks of package term: Size, Skip, Check; of haspref: within, size, TermError. -/
import Derived.Test.YtepddehodmljeaaA
namespace Go.Proofs.Ytepddehodmljeaa
open Go.RowKit

theorem within_calls (n lo hi : Int) (w : World) :
    Calls Try.prog 122 #[.int .i64 n, .int .i64 lo, .int .i64 hi] w fun e w' => e = .returned (.bool (decide (lo ≤ n) && decide (n ≤ hi))) ∧ w = w' := by
  go_enter Try.func122, Try.ntmps122
  go_wp2
  all_goals (go_ret; simp_all; try omega)

theorem rsize_calls (n : Int) (w : World) :
    Calls Try.prog 123 #[.int .i64 n] w fun e w' => e = .returned (.int .i64 (ar n)) ∧ w = w' := by
  go_enter Try.func123, Try.ntmps123
  go_wp2
  all_goals (go_ret; refine ⟨ret_int ?_, rfl⟩; unfold ar; (repeat' split) <;> simp <;> omega)

theorem chk1_calls (n : Int) (w : World) :
    Calls Try.prog 121 #[.int .i64 n] w fun e w' => e = .returned (.bool (decide (n < -8) || decide (6 ≤ n))) ∧ w = w' := by
  go_enter Try.func121, Try.ntmps121
  go_wp2
  all_goals (go_ret; simp_all)

theorem tdiv2 (n : Int) : n.tdiv 2 = if 0 ≤ n then n / 2 else -((-n) / 2) := by
  split
  · rename_i h; exact Int.tdiv_eq_ediv_of_nonneg h
  · rename_i h
    have : n = -(-n) := by omega
    rw [this, Int.neg_tdiv, Int.tdiv_eq_ediv_of_nonneg (by omega)]; simp

theorem Size_calls (n : Int) (h1 : -9223372036854775807 ≤ n) (h2 : n ≤ 9223372036854775807) (w : World) :
    Calls Try.prog 173 #[.int .i64 n] w fun e w' => e = .returned (.int .i64 (ar n)) ∧ w = w' := by
  go_enter Try.func173, Try.ntmps173
  go_wp2
  all_goals (go_ret; refine ⟨ret_int ?_, rfl⟩; unfold ar; simp only [tdiv2] at *; (repeat' split at *) <;> simp <;> omega)

/-- Every sign of a list within the bounds of Go's ints, by far. -/
def Small (t : List Int) : Prop := ∀ x ∈ t, -9223372036854775807 ≤ x ∧ x ≤ 9223372036854775807

theorem skp_out {t : List Int} {k : Int} (h : ¬ (0 ≤ k ∧ k < t.length)) : skp t k = -1 := by unfold skp; rw [if_neg h]

theorem Skip_out (t : List Int) (v : Value) (w : World) (hv : IsInts Any w v t) (k : Int) (h : ¬ (0 ≤ k ∧ k < t.length)) :
    Calls Try.prog 115 #[v, .int .i64 k] w fun e w' => e = .returned (.int .i64 (skp t k)) ∧ w = w' := by
  rw [skp_out h]
  obtain ⟨hlen, ⟨rfl, a, c, rfl, -⟩ | ⟨hne, b, o, c, rfl, -, -, hlt, hc⟩⟩ := hv
  · by_cases hk : k < 0
    · go_enter Try.func115, Try.ntmps115
      go_wp2
      go_ret
      exact ⟨rfl, rfl⟩
    · go_enter Try.func115, Try.ntmps115
      go_wp2
      go_ret
      exact ⟨rfl, rfl⟩
  · by_cases hk : k < 0
    · go_enter Try.func115, Try.ntmps115
      go_wp2
      go_ret
      exact ⟨rfl, rfl⟩
    · have : (t.length : Int) ≤ k := by omega
      go_enter Try.func115, Try.ntmps115
      go_wp2
      go_ret
      exact ⟨rfl, rfl⟩

/-- Behind j parts of the term that begins at q. -/
def SkRel (t : List Int) (q j : Nat) (z : Int) : Prop :=
  (z = -1 ∧ need (t.drop (q + 1)) (ar (nth t q)) = none) ∨
  (∃ p : Nat, z = p ∧ q + 1 ≤ p ∧ p ≤ t.length ∧ need (t.drop (q + 1)) (ar (nth t q)) = need (t.drop p) (ar (nth t q) - j))

theorem skp_in {t : List Int} {q : Nat} (hq : q < t.length) : skp t q = match need (t.drop (q + 1)) (ar (nth t q)) with | some r => (t.length : Int) - r.length | none => -1 := by
  unfold skp
  rw [if_pos (by omega), Int.toNat_natCast, drop_nth hq, need_cons_succ, Nat.zero_add]
  rfl

theorem SkRel.start {t : List Int} {q : Nat} (hq : q < t.length) : SkRel t q 0 (q + 1) := .inr ⟨q + 1, by simp, by omega, hq, by simp⟩

theorem SkRel.step {t : List Int} {q j : Nat} {z : Int} (hj : j < ar (nth t q)) (h : SkRel t q j z) : SkRel t q (j + 1) (skp t z) := by
  obtain ⟨rfl, h⟩ | ⟨p, rfl, h1, h2, h⟩ := h
  · exact .inl ⟨skp_out (by omega), h⟩
  · rw [show ar (nth t q) - j = (ar (nth t q) - (j + 1)) + 1 by omega, need_succ] at h
    by_cases hp : p < t.length
    · cases hn : need (t.drop p) 1 with
      | none => exact .inl ⟨by unfold skp; rw [if_pos (by omega), Int.toNat_natCast, hn], by rw [h, hn]; rfl⟩
      | some r =>
        obtain ⟨p', h3, h4, rfl⟩ := need_drop hn (by omega)
        refine .inr ⟨p', ?_, by omega, h4, by rw [h, hn]; rfl⟩
        unfold skp
        rw [if_pos (by omega), Int.toNat_natCast, hn]
        simp; omega
    · have e : t.drop p = [] := List.drop_eq_nil_of_le (by omega)
      rw [e] at h
      exact .inl ⟨skp_out (by omega), by rw [h]; rfl⟩

theorem SkRel.done {t : List Int} {q : Nat} {z : Int} (hq : q < t.length) (h : SkRel t q (ar (nth t q)) z) : skp t q = z := by
  rw [skp_in hq]
  obtain ⟨rfl, h⟩ | ⟨p, rfl, h1, h2, h⟩ := h
  · rw [h]
  · rw [h, Nat.sub_self, need_zero]; simp; omega

theorem SkRel.grows {t : List Int} {q j : Nat} {z : Int} (h : SkRel t q j z) : z = -1 ∨ (q < z ∧ z ≤ t.length) := by
  obtain ⟨rfl, -⟩ | ⟨p, rfl, h1, h2, -⟩ := h
  · exact .inl rfl
  · exact .inr (by omega)

theorem Skip_calls (t : List Int) (hs : Small t) (v : Value) (w : World) (hv : IsInts Any w v t) :
    ∀ (m : Nat) (k : Int), t.length ≤ k.toNat + m → Calls Try.prog 115 #[v, .int .i64 k] w fun e w' => e = .returned (.int .i64 (skp t k)) ∧ w = w' := by
  intro m
  induction m with
  | zero => intro k hk; exact Skip_out t v w hv k (by omega)
  | succ m ih =>
    intro k hk
    by_cases hin : 0 ≤ k ∧ k < t.length
    · obtain ⟨q, rfl⟩ : ∃ q : Nat, k = q := ⟨k.toNat, by omega⟩
      have hq : q < t.length := by omega
      have hv0 := hv
      obtain ⟨hlen, ⟨rfl, a, c, rfl, -⟩ | ⟨hne, b, o, c, rfl, -, -, hlt, hc⟩⟩ := hv
      · simp at hq
      have hcell := hc q hq
      have hsm := hs (nth t q) (nth_mem hq)
      have hcall : ∀ j z, SkRel t q j z → Calls Try.prog 115 #[.slice (some ⟨b, o, none⟩) t.length c, .int .i64 z] w fun e w' => e = .returned (.int .i64 (skp t z)) ∧ w = w' := by
        intro j z hz
        rcases hz.grows with rfl | hz
        · exact Skip_out t _ w hv0 _ (by omega)
        · exact ih z (by omega)
      clear ih hs hne hc hv0 hk hlt
      have hle := ar_le (nth t q)
      go_enter Try.func115, Try.ntmps115
      go_wp2_with (go_at_call 173; refine (Size_calls _ hsm.1 hsm.2 _).mono ?_; rintro e w' ⟨rfl, rfl⟩)
      go_loop [5, 21] (fun nx i => ∃ j : Nat, j ≤ ar (nth t q) ∧ i = .int .i64 j ∧ ∃ z : Int, nx = .int .i64 z ∧ SkRel t q j z) (fun _ i => ar (nth t q) - (intOf i).toNat)
      case atStart => exact ⟨0, Nat.zero_le _, rfl, _, rfl, SkRel.start hq⟩
      case round =>
        obtain ⟨j, hj, rfl, z, rfl, hz⟩ := hrel
        by_cases hlt : j < ar (nth t q)
        · have hz' := hz.step hlt
          have hcz := hcall j z hz
          clear hcall
          go_wp2_with (go_at_call 115; refine hcz.mono ?_; rintro e w' ⟨rfl, rfl⟩)
          go_round
          case rel => exact ⟨j + 1, by omega, by go_num, _, rfl, hz'⟩
          case measure => simp [intOf]; omega
        · have : j = ar (nth t q) := by omega
          subst this
          have hd := Lib.hid (hz.done hq)
          clear hcall
          go_wp2
          go_ret
          exact ⟨ret_int hd.out.symm, rfl⟩
    · exact Skip_out t v w hv k hin

/-! ### slices.IndexFunc, ContainsFunc at a predicate that only reckons -/
def idxF (p : Int → Bool) : List Int → Nat → Int
  | [], _ => -1
  | x :: t, k => if p x then k else idxF p t (k + 1)

theorem idxF_skip {p : Int → Bool} : ∀ (t : List Int) (k m : Nat), m ≤ t.length → (∀ j, j < m → p (nth t j) = false) → idxF p t k = idxF p (t.drop m) (k + m)
  | t, k, 0, _, _ => by simp
  | [], k, m + 1, h, _ => by simp at h
  | x :: t, k, m + 1, h, hp => by
    have h0 := hp 0 (by omega)
    rw [nth_cons_zero] at h0
    rw [idxF, h0]
    simp only [Bool.false_eq_true, if_false, List.drop_succ_cons]
    rw [idxF_skip t (k + 1) m (by simpa using h) (fun j hj => by have := hp (j + 1) (by omega); rwa [nth_cons_succ] at this)]
    congr 1; omega

theorem idxF_nonneg {p : Int → Bool} : ∀ (t : List Int) (k : Nat), decide (0 ≤ idxF p t k) = t.any p
  | [], k => by simp [idxF]
  | x :: t, k => by
    rw [idxF, List.any_cons]
    cases h : p x
    · simpa using idxF_nonneg t (k + 1)
    · simp

theorem IndexFunc_calls (t : List Int) (v : Value) (g : Nat) (cap : Array Value) (p : Int → Bool) (w : World) (hv : IsInts Any w v t) (he : Enters g)
    (hf : ∀ x, x ∈ t → Calls Try.prog g (#[.int .i64 x] ++ cap) w fun e w' => e = .returned (.bool (p x)) ∧ w = w') :
    Calls Try.prog 175 #[v, .func (.func g) #[] cap] w fun e w' => e = .returned (.int .i64 (idxF p t 0)) ∧ w = w' := by
  obtain ⟨hlen, ⟨rfl, a, c, rfl, -⟩ | ⟨hne, b, o, c, rfl, -, -, hlt, hc⟩⟩ := hv
  · go_enter Try.func175, Try.ntmps175
    go_wp2_with fail
    refine wp_loop_rounds 1 ?_
    rw [rounds_succ]
    go_wp2_with fail
    go_ret
    exact ⟨rfl, rfl⟩
  · have he' : ∀ args w, (callFunc g args).run Try.prog w = .ok (.enter g args) w := he
    clear he
    go_enter Try.func175, Try.ntmps175
    go_wp2_with fail
    go_loop [8] (fun i => ∃ k : Nat, k ≤ t.length ∧ i = .int .i64 k ∧ ∀ j, j < k → p (nth t j) = false) (fun i => t.length - (intOf i).toNat)
    case atStart => exact ⟨0, Nat.zero_le _, rfl, fun _ h => by omega⟩
    case round =>
      obtain ⟨k, hk, rfl, hp⟩ := hrel
      have hP := Lib.hid hp
      clear hp
      by_cases hlt' : k < t.length
      · have hcell := hc k hlt'
        have hfx := hf (nth t k) (nth_mem hlt')
        clear hc hf
        cases hpx : p (nth t k)
        · rw [hpx] at hfx
          have hpx := Lib.hid hpx
          have Hfx := Lib.hid hfx
          clear hfx
          go_wp2_with fail
          refine Hfx.out.mono ?_
          rintro e w' ⟨rfl, rfl⟩
          clear Hfx
          go_wp2_with fail
          go_round
          case rel => exact ⟨k + 1, by omega, by go_num, fun j hj => by by_cases e : j = k; (subst e; exact hpx.out); exact hP.out j (by omega)⟩
          case measure => simp [intOf]; omega
        · rw [hpx] at hfx
          have hfin : Hid (idxF p t 0 = k) := by
            rw [Hid, idxF_skip t 0 k hk hP.out, drop_nth hlt', idxF, hpx]; simp
          clear hpx
          have Hfx := Lib.hid hfx
          clear hfx
          go_wp2_with fail
          refine Hfx.out.mono ?_
          rintro e w' ⟨rfl, rfl⟩
          clear Hfx
          go_wp2_with fail
          go_ret
          exact ⟨ret_int hfin.out.symm, rfl⟩
      · have hkl : k = t.length := by omega
        subst hkl
        have hfin : Hid (idxF p t 0 = -1) := by
          rw [Hid, idxF_skip t 0 _ hk hP.out]; simp [idxF]
        clear hc hf
        go_wp2_with fail
        go_ret
        exact ⟨ret_int hfin.out.symm, rfl⟩

theorem ContainsFunc_calls (t : List Int) (v : Value) (g : Nat) (cap : Array Value) (p : Int → Bool) (w : World) (hv : IsInts Any w v t) (he : Enters g)
    (hf : ∀ x, x ∈ t → Calls Try.prog g (#[.int .i64 x] ++ cap) w fun e w' => e = .returned (.bool (p x)) ∧ w = w') :
    Calls Try.prog 120 #[v, .func (.func g) #[] cap] w fun e w' => e = .returned (.bool (t.any p)) ∧ w = w' := by
  have h := IndexFunc_calls t v g cap p w hv he hf
  clear he
  have hn := Lib.hid (idxF_nonneg (p := p) t 0)
  clear hf
  go_enter Try.func120, Try.ntmps120
  go_wp2_with (go_at_call 175; refine h.mono ?_; rintro e w' ⟨rfl, rfl⟩; clear h)
  go_ret
  exact ⟨ret_bool hn.out, rfl⟩

/-! ### term.Check, haspref.TermError -/
theorem small_of_chk {t : List Int} (h : t.any (fun n => decide (n < -8) || decide (6 ≤ n)) = false) : Small t := by
  intro x hx
  have := List.any_eq_false.1 h x hx
  simp at this
  omega

theorem skp_zero (t : List Int) : (skp t 0 = t.length) ↔ need t 1 = some [] := by
  unfold skp
  cases t with
  | nil => simp [need]
  | cons a t =>
    rw [if_pos (by simp)]
    simp only [Int.toNat_zero, List.drop_zero]
    cases h : need (a :: t) 1 with
    | none => simp; omega
    | some r => cases r <;> simp; omega

theorem Check_calls (t : List Int) (v : Value) (w : World) (hv : IsInts Any w v t) :
    Calls Try.prog 56 #[v] w fun e w' => e = .returned (.int .i64 (chk t)) ∧ w = w' := by
  obtain ⟨a, c, rfl⟩ := hv.isSlice
  have hfin : Hid (chk t = chk t) := rfl
  by_cases h1 : 30 < t.length
  · have hr : Hid (chk t = 2) := by rw [Hid, chk, if_pos h1]
    have : 30 < (t.length : Int) := by omega
    clear hv
    go_enter Try.func56, Try.ntmps56
    go_wp2_with fail
    go_ret
    exact ⟨ret_int hr.out.symm, rfl⟩
  · have h1' : (t.length : Int) ≤ 30 := by omega
    have hcf := ContainsFunc_calls t _ 121 #[] (fun n => decide (n < -8) || decide (6 ≤ n)) w hv (enters_fn Try.func121 (by kernel_rfl) rfl) (fun x _ => chk1_calls x w)
    cases h2 : t.any (fun n => decide (n < -8) || decide (6 ≤ n))
    · rw [h2] at hcf
      have hs := small_of_chk h2
      have hsk := Skip_calls t hs _ w hv t.length 0 (by simp)
      by_cases h3 : need t 1 = some []
      · have hr : Hid (chk t = 0) := by rw [Hid, chk, if_neg h1, h2, if_neg (by simp), if_pos h3]
        rw [(skp_zero t).2 h3] at hsk
        clear h2 h3 hs hv h1
        go_enter Try.func56, Try.ntmps56
        go_wp2_with fail
        refine hcf.mono ?_
        rintro e w' ⟨rfl, rfl⟩
        go_wp2_with fail
        refine hsk.mono ?_
        rintro e w' ⟨rfl, rfl⟩
        clear hcf hsk
        go_wp2_with fail
        go_ret
        exact ⟨ret_int hr.out.symm, rfl⟩
      · have hr : Hid (chk t = 1) := by rw [Hid, chk, if_neg h1, h2, if_neg (by simp), if_neg h3]
        have h4 : (skp t 0 != t.length) = true := by rw [bne_iff_ne]; exact fun h => h3 ((skp_zero t).1 h)
        clear h2 h3 hs hv h1
        go_enter Try.func56, Try.ntmps56
        go_wp2_with fail
        refine hcf.mono ?_
        rintro e w' ⟨rfl, rfl⟩
        go_wp2_with fail
        refine hsk.mono ?_
        rintro e w' ⟨rfl, rfl⟩
        clear hcf hsk
        go_wp2_with fail
        go_ret
        exact ⟨ret_int hr.out.symm, rfl⟩
    · have hr : Hid (chk t = 3) := by rw [Hid, chk, if_neg h1, h2, if_pos rfl]
      rw [h2] at hcf
      clear h2 hv h1
      go_enter Try.func56, Try.ntmps56
      go_wp2_with fail
      refine hcf.mono ?_
      rintro e w' ⟨rfl, rfl⟩
      clear hcf
      go_wp2_with fail
      go_ret
      exact ⟨ret_int hr.out.symm, rfl⟩

/-- Behind k signs: so many terms are still open. -/
def TeRel (t : List Int) (k : Nat) (z : Int) : Prop := ∃ m : Nat, z = m ∧ m ≤ 1 + 2 * k ∧ need t 1 = need (t.drop k) m

theorem TermError_calls (t : List Int) (v : Value) (w : World) (hv : IsInts Any w v t) :
    Calls Try.prog 57 #[v] w fun e w' => e = .returned (.int .i64 (chk t)) ∧ w = w' := by
  obtain ⟨a, c, rfl⟩ := hv.isSlice
  by_cases h1 : 30 < t.length
  · have hr : Hid (chk t = 2) := by rw [Hid, chk, if_pos h1]
    have : 30 < (t.length : Int) := by omega
    clear hv
    go_enter Try.func57, Try.ntmps57
    go_wp2_with fail
    go_ret
    exact ⟨ret_int hr.out.symm, rfl⟩
  · have h1' : (t.length : Int) ≤ 30 := by omega
    obtain ⟨hlen, ⟨rfl, a, c, hv, -⟩ | ⟨hne, b, o, c, hv, -, -, hlt, hc⟩⟩ := hv
    · cases hv
      go_enter Try.func57, Try.ntmps57
      go_wp2_with fail
      refine wp_loop_rounds 1 ?_
      rw [rounds_succ]
      go_wp2_with fail
      refine wp_loop_rounds 1 ?_
      rw [rounds_succ]
      go_wp2_with fail
      go_ret
      exact ⟨rfl, rfl⟩
    · cases hv
      have hchk : Hid (chk t = if t.any (fun n => decide (n < -8) || decide (6 ≤ n)) then 3 else if need t 1 = some [] then 0 else 1) := by rw [Hid, chk, if_neg h1]
      clear h1
      go_enter Try.func57, Try.ntmps57
      go_wp2_with fail
      go_loop [3] (fun i => ∃ k : Nat, k ≤ t.length ∧ i = .int .i64 k ∧ ∀ j, j < k → (decide (nth t j < -8) || decide (6 ≤ nth t j)) = false) (fun i => t.length - (intOf i).toNat)
      case atStart => exact ⟨0, Nat.zero_le _, rfl, fun _ h => by omega⟩
      case round =>
        obtain ⟨k, hk, rfl, hp⟩ := hrel
        have hP := Lib.hid hp
        clear hp
        by_cases hlt' : k < t.length
        · have hcell := hc k hlt'
          cases hpx : (decide (-8 ≤ nth t k) && decide (nth t k ≤ 5))
          · have hq : t.any (fun n => decide (n < -8) || decide (6 ≤ n)) = true := by
              rw [List.any_eq_true]
              refine ⟨nth t k, nth_mem hlt', ?_⟩
              simp at hpx ⊢
              omega
            rw [hq] at hchk
            have hw := within_calls (nth t k) (-8) 5 w
            rw [hpx] at hw
            clear hc hpx hq
            have hW := Lib.hid hw
            clear hw
            go_wp2_with (go_at_call 122; refine hW.out.mono ?_; rintro e w' ⟨rfl, rfl⟩)
            go_ret
            exact ⟨ret_int (by rw [hchk.out]; rfl), rfl⟩
          · have hw := within_calls (nth t k) (-8) 5 w
            rw [hpx] at hw
            have hpx := Lib.hid hpx
            have hW := Lib.hid hw
            have hC := Lib.hid hc
            clear hw hc
            go_wp2_with (go_at_call 122; refine hW.out.mono ?_; rintro e w' ⟨rfl, rfl⟩)
            go_round
            case rel =>
              refine ⟨k + 1, by omega, by go_num, fun j hj => ?_⟩
              by_cases e : j = k
              · subst e; have := hpx.out; simp at this ⊢; omega
              · exact hP.out j (by omega)
            case measure => simp [intOf]; omega
        · have hkl : k = t.length := by omega
          subst hkl
          have hq : t.any (fun n => decide (n < -8) || decide (6 ≤ n)) = false := by
            rw [List.any_eq_false]
            intro x hx
            obtain ⟨j, hj, rfl⟩ := List.getElem_of_mem hx
            have := hP.out j hj
            rw [nth_eq hj] at this
            simpa using this
          rw [hq] at hchk
          have hC := Lib.hid hc
          clear hc hP hq
          go_wp2_with fail
          go_loop [4, 5] (fun op i => ∃ k : Nat, k ≤ t.length ∧ i = .int .i64 k ∧ ∃ z : Int, op = .int .i64 z ∧ TeRel t k z) (fun _ i => t.length - (intOf i).toNat)
          case atStart => exact ⟨0, Nat.zero_le _, rfl, 1, rfl, 1, rfl, by omega, by simp⟩
          case round =>
            obtain ⟨k, hk, rfl, z, rfl, m, rfl, hm, hn⟩ := hrel
            have hN := Lib.hid hn
            clear hn
            by_cases hlt' : k < t.length
            · have hcell := hC.out k hlt'
              have har := ar_le (nth t k)
              cases m with
              | zero =>
                have hr : Hid (chk t = 1) := by
                  rw [Hid, hchk.out, hN.out, need_zero]
                  simp; omega
                go_wp2_with fail
                go_ret
                exact ⟨ret_int hr.out.symm, rfl⟩
              | succ m =>
                have hne0 : (((m + 1 : Nat) : Int) == 0) = false := by simp; omega
                go_wp2_with (go_at_call 123; refine (rsize_calls _ _).mono ?_; rintro e w' ⟨rfl, rfl⟩)
                go_round
                case rel =>
                  refine ⟨k + 1, by omega, by go_num, _, rfl, m + ar (nth t k), ?_, by omega, ?_⟩
                  · simp
                  · rw [hN.out, drop_nth hlt', need_cons_succ]
                case measure => simp [intOf]; omega
            · have hkl : k = t.length := by omega
              subst hkl
              have hd : Hid (chk t = if m = 0 then 0 else 1) := by
                rw [Hid, hchk.out, hN.out, List.drop_length]
                cases m <;> simp [need]
              by_cases hm0 : m = 0
              · subst hm0
                go_wp2_with fail
                go_ret
                exact ⟨ret_int (by rw [hd.out]; rfl), rfl⟩
              · have hne0 : ((m : Int) != 0) = true := by rw [bne_iff_ne]; omega
                go_wp2_with fail
                go_ret
                exact ⟨ret_int (by rw [hd.out, if_neg hm0]), rfl⟩

end Go.Proofs.Ytepddehodmljeaa
