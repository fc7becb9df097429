/- Plain: rules that fall: each step goes to what is below. No program in sight. -/
import Derived.Test.YtepddehodmljeaaG6
import Derived.Test.YtepddehodmljeaaPo
import Derived.Test.YtepddehodmljeaaG5
namespace Go.Proofs.Ytepddehodmljeaa

def fallsL (r : List Int) (l : Rus) : Bool := l.all fun p => gt (rkF r) (tmOf p.1) (tmOf p.2)
def fallsE (r : List Int) (l : Rus) : Int := if rankE r = 0 then rulesE l else rankE r
def fallsB (r : List Int) (l : Rus) : Bool := decide (fallsE r l = 0) && fallsL r l

theorem fallsE_zero {r : List Int} {l : Rus} (h : fallsE r l = 0) : rankE r = 0 ∧ Rul l := by
  unfold fallsE at h
  split at h
  · rename_i h1; exact ⟨h1, rulesE_zero.1 h⟩
  · contradiction

theorem ruleE_all {r : List Int × List Int} (h : ruleE r = 0) : chk r.1 = 0 ∧ chk r.2 = 0 ∧ ownB r.1 = true ∧ ownB r.2 = true ∧ 0 ≤ nth r.1 0 ∧ freeB r.1 r.2 = false := by
  obtain ⟨h1, h2⟩ := ruleE_chk h
  have h3 : chk2 r.1 r.2 = 0 := by rw [chk2, if_pos h1, h2]
  rw [ruleE, if_pos h3] at h
  split at h
  · rename_i ho
    rw [Bool.and_eq_true] at ho
    split at h
    · contradiction
    · rename_i h0
      split at h
      · contradiction
      · rename_i hf
        exact ⟨h1, h2, ho.1, ho.2, by omega, by simpa using hf⟩
  · contradiction

/-- A variable of R stands in L. -/
theorem rule_var {r : List Int × List Int} (h : ruleE r = 0) {v : Int} (hv : v ∈ r.2) (h0 : v < 0) : v ∈ r.1 := by
  have hf := (ruleE_all h).2.2.2.2.2
  have := List.any_eq_false.1 hf v hv
  rw [decide_eq_true h0, Bool.true_and] at this
  have h2 : hasB r.1 v = true := by simpa using this
  rw [hasB, List.contains_iff_mem] at h2
  exact h2

theorem fitL_app {p t : List Int} (hp : chk p = 0) (ht : chk t = 0) {s : List (List Int)} (h : fitL p t = some s) : app s p = t := by
  unfold fitL at h
  cases hb : fitM (tmOf p) (tmOf t) [] with
  | none => rw [hb] at h; cases h
  | some bl => rw [hb] at h; cases h; exact fit_app hp ht hb

theorem chk_right_app {s : List (List Int)} (hs : RightS s) {t : List Int} (ht : chk t = 0) : tmOf (app s t) = (tmOf t).inst (sig s) := by
  obtain ⟨e, k⟩ := app_tm hs ht
  rw [e, tmOf_flat k]

/-- A step, told on trees. -/
theorem stp_tree {l : Rus} {t : List Int} (hl : Rul l) (ht : chk t = 0) {k n : Nat} (hk : k < t.length) (hn : n < l.length) {s : Stp} (h : stp l t k n = some s) :
    ∃ σ, RightS σ ∧ s = (n, k, puT t k (app σ (nthR l n).2)) ∧ app σ (nthR l n).1 = paT t k ∧ (tmOf t).sub k = (tmOf (nthR l n).1).inst (sig σ) ∧ tmOf s.2.2 = (tmOf t).put k ((tmOf (nthR l n).2).inst (sig σ)) := by
  obtain ⟨σ, hf, rfl⟩ := stp_some h
  obtain ⟨h1, h2⟩ := hl.chk hn
  have hr := fitL_right h1 (chk_paT ht hk) hf
  have ha := fitL_app h1 (chk_paT ht hk) hf
  obtain ⟨hx, hfl⟩ := tm_chk ht
  have hk' : k < (tmOf t).size := by rw [← size_flat, hfl]; exact hk
  have h3 := (tm_at hx hk').2.2
  rw [hfl] at h3
  obtain ⟨e2, k2⟩ := app_tm hr h2
  refine ⟨σ, hr, rfl, ha, ?_, ?_⟩
  · have := chk_right_app hr h1
    rw [ha, h3.1, tmOf_flat (sub_ok hx hk')] at this
    exact this
  · show tmOf (puT t k (app σ (nthR l n).2)) = _
    rw [e2, h3.2, tmOf_flat (put_ok hx k2 hk')]

theorem put_sub {x : Tm} : ∀ {k : Nat}, k < x.size → x.put k (x.sub k) = x := by
  induction x with
  | leaf s => intro k hk; simp [Tm.size] at hk; subst hk; simp [put_zero, sub_zero]
  | un s a ih =>
    intro k hk
    cases k with
    | zero => simp [put_zero, sub_zero]
    | succ k =>
      show Tm.un s (a.put k (a.sub k)) = _
      rw [ih (by simp [Tm.size] at hk; omega)]
  | bin s a b iha ihb =>
    intro k hk
    cases k with
    | zero => simp [put_zero, sub_zero]
    | succ k =>
      by_cases h : k < a.size
      · show (if k < a.size then Tm.bin s (a.put k (if k < a.size then a.sub k else b.sub (k - a.size))) b else _) = _
        rw [if_pos h, if_pos h, iha h]
      · show (if k < a.size then _ else Tm.bin s a (b.put (k - a.size) (if k < a.size then a.sub k else b.sub (k - a.size)))) = _
        rw [if_neg h, if_neg h, ihb (by simp [Tm.size] at hk; omega)]

theorem fallsL_at {r : List Int} {l : Rus} (h : fallsL r l = true) {n : Nat} (hn : n < l.length) : gt (rkF r) (tmOf (nthR l n).1) (tmOf (nthR l n).2) = true :=
  List.all_eq_true.1 h _ (nthR_mem hn)

/-- Each step goes to what is below. -/
theorem step_below {r : List Int} {l : Rus} {t : List Int} (hl : Rul l) (hF : fallsL r l = true) (ht : chk t = 0) {s : Stp} (hs : s ∈ allP l t t.length) : gt (rkF r) (tmOf t) (tmOf s.2.2) = true := by
  obtain ⟨k, hk, n, hn, he⟩ := mem_all.1 hs
  obtain ⟨σ, hr, -, -, h1, h2⟩ := stp_tree hl ht hk hn he
  obtain ⟨hx, hfl⟩ := tm_chk ht
  have hk' : k < (tmOf t).size := by rw [← size_flat, hfl]; exact hk
  rw [h2]
  have := gt_put (gt_inst (sig σ) (fallsL_at hF hn)) (tmOf t) k hx hk'
  rw [← h1, put_sub hk'] at this
  exact this

/-- And brings no new variable. -/
theorem step_vars {l : Rus} {t : List Int} (hl : Rul l) (ht : chk t = 0) {s : Stp} (hs : s ∈ allP l t t.length) : ∀ x ∈ s.2.2, x < 0 → x ∈ t := by
  obtain ⟨k, hk, n, hn, he⟩ := mem_all.1 hs
  obtain ⟨σ, hr, rfl, h1, -, -⟩ := stp_tree hl ht hk hn he
  intro x hx h0
  have hx' : x ∈ t.take k ++ (app σ (nthR l n).2 ++ t.drop (enT t k)) := hx
  rcases List.mem_append.1 hx' with h | h
  · exact List.mem_of_mem_take h
  rcases List.mem_append.1 h with h | h
  · obtain ⟨v, hv, hxv⟩ := List.mem_flatMap.1 h
    by_cases hv0 : v < 0
    · have hvL := rule_var (hl.2 _ (nthR_mem hn)) hv hv0
      have : x ∈ app σ (nthR l n).1 := List.mem_flatMap.2 ⟨v, hvL, hxv⟩
      rw [h1] at this
      exact List.mem_of_mem_drop (List.mem_of_mem_take this)
    · rw [sb, if_neg hv0] at hxv
      simp at hxv
      omega
  · exact List.mem_of_mem_drop h

/-- A form is below, or it is the term itself. -/
theorem ofR_below {r : List Int} {l : Rus} (hl : Rul l) (hF : fallsL r l = true) : ∀ (f n : Nat) (t x : List Int) (m : Nat), chk t = 0 → ofR l f n t = (x, m, 0) → (m = n ∧ x = t) ∨ (n < m ∧ gt (rkF r) (tmOf t) (tmOf x) = true)
  | f, n, t, x, m, ht, h => by
    have hz := ofR_zero f n t x m h
    cases hs : stL l t with
    | nil =>
      rw [ofR_end hz hs] at h
      cases h
      exact .inl ⟨rfl, rfl⟩
    | cons s r' =>
      cases f with
      | zero =>
        rw [ofR_many hz hs] at h
        have := congrArg (fun p => p.2.2) h
        simp at this
      | succ f =>
        rw [ofR_step hz hs] at h
        have hm : s ∈ stL l t := by rw [hs]; exact List.mem_cons_self ..
        have hc := step_chk' hl ht hz hm
        rw [(stL_of hz).1] at hm
        have hb := step_below hl hF ht hm
        rcases ofR_below hl hF f (n + 1) s.2.2 x m hc h with ⟨h1, h2⟩ | ⟨h1, h2⟩
        · exact .inr ⟨by omega, by rw [h2]; exact hb⟩
        · exact .inr ⟨by omega, gt_trans hb h2⟩
theorem norm_below {r : List Int} {l : Rus} {t : List Int} (h : formE l t = 0) (hf : fallsB r l = true) : aboveE r t (formT l t) = 0 ∧ aboveB r t (formT l t) = decide (0 < formN l t) ∧ (formN l t = 0 → formT l t = t) := by
  rw [fallsB, Bool.and_eq_true] at hf
  obtain ⟨hr, hl⟩ := fallsE_zero (of_decide_eq_true hf.1)
  obtain ⟨h1, h2⟩ := form_zero h
  have ht := (askE_zero h1).2
  have ha := aboveE_of hr ht (form_chk h)
  refine ⟨ha, ?_, ?_⟩
  · rw [aboveB_of ha]
    rcases ofR_below hl hf.2 _ _ _ _ _ ht h2 with ⟨h3, h4⟩ | ⟨h3, h4⟩
    · rw [h3, h4, gt_irrefl]; rfl
    · rw [h4, decide_eq_true h3]
  · intro h0
    rcases ofR_below hl hf.2 _ _ _ _ _ ht h2 with ⟨h3, h4⟩ | ⟨h3, h4⟩
    · exact h4
    · omega

end Go.Proofs.Ytepddehodmljeaa
