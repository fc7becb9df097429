/- Plain: leans: what leans goes by a step, and where a rule fits what a term has become, it leans. -/
import Derived.Test.YtepddehodmljeaaG8
namespace Go.Proofs.Ytepddehodmljeaa

/-- Where a place of a term's own stands, when variables have become something. -/
def plX (θ : Int → Tm) : Tm → Nat → Nat
  | .leaf _, _ => 0
  | .un _ _, 0 => 0
  | .un _ a, k + 1 => plX θ a k + 1
  | .bin _ _ _, 0 => 0
  | .bin _ a b, k + 1 => if k < a.size then plX θ a k + 1 else (a.inst θ).size + plX θ b (k - a.size) + 1
theorem plX_zero (θ : Int → Tm) (x : Tm) : plX θ x 0 = 0 := by cases x <;> rfl

theorem plX_sub {θ : Int → Tm} : ∀ {x : Tm} {k : Nat}, k < x.size → plX θ x k < (x.inst θ).size ∧ (x.inst θ).sub (plX θ x k) = (x.sub k).inst θ
  | x, 0, _ => by rw [plX_zero, sub_zero, sub_zero]; exact ⟨size_pos _, rfl⟩
  | .leaf s, k + 1, hk => by simp [Tm.size] at hk
  | .un s a, k + 1, hk => by
    obtain ⟨h1, h2⟩ := plX_sub (θ := θ) (x := a) (k := k) (by simp [Tm.size] at hk; omega)
    refine ⟨?_, h2⟩
    show plX θ a k + 1 < (Tm.un s (a.inst θ)).size
    simp [Tm.size]; omega
  | .bin s a b, k + 1, hk => by
    show (if k < a.size then plX θ a k + 1 else (a.inst θ).size + plX θ b (k - a.size) + 1) < (Tm.bin s (a.inst θ) (b.inst θ)).size ∧ (Tm.bin s (a.inst θ) (b.inst θ)).sub (if k < a.size then plX θ a k + 1 else (a.inst θ).size + plX θ b (k - a.size) + 1) = (if k < a.size then a.sub k else b.sub (k - a.size)).inst θ
    by_cases hka : k < a.size
    · obtain ⟨h1, h2⟩ := plX_sub (θ := θ) (x := a) (k := k) hka
      rw [if_pos hka, if_pos hka]
      refine ⟨by simp [Tm.size]; omega, ?_⟩
      show (if plX θ a k < (a.inst θ).size then (a.inst θ).sub (plX θ a k) else _) = _
      rw [if_pos h1, h2]
    · obtain ⟨h1, h2⟩ := plX_sub (θ := θ) (x := b) (k := k - a.size) (by simp [Tm.size] at hk; omega)
      rw [if_neg hka, if_neg hka]
      refine ⟨by simp [Tm.size]; omega, ?_⟩
      show (if (a.inst θ).size + plX θ b (k - a.size) < (a.inst θ).size then _ else (b.inst θ).sub ((a.inst θ).size + plX θ b (k - a.size) - (a.inst θ).size)) = _
      rw [if_neg (by omega), Nat.add_sub_cancel_left, h2]
theorem plX_put {θ : Int → Tm} {u : Tm} : ∀ {x : Tm} {k : Nat}, k < x.size → (x.inst θ).put (plX θ x k) (u.inst θ) = (x.put k u).inst θ
  | x, 0, _ => by rw [plX_zero, put_zero, put_zero]
  | .leaf s, k + 1, hk => by simp [Tm.size] at hk
  | .un s a, k + 1, hk => by
    have h2 := plX_put (θ := θ) (u := u) (x := a) (k := k) (by simp [Tm.size] at hk; omega)
    show Tm.un s ((a.inst θ).put (plX θ a k) (u.inst θ)) = Tm.un s ((a.put k u).inst θ)
    rw [h2]
  | .bin s a b, k + 1, hk => by
    show (Tm.bin s (a.inst θ) (b.inst θ)).put (if k < a.size then plX θ a k + 1 else (a.inst θ).size + plX θ b (k - a.size) + 1) (u.inst θ) = (if k < a.size then Tm.bin s (a.put k u) b else Tm.bin s a (b.put (k - a.size) u)).inst θ
    by_cases hka : k < a.size
    · have h1 := (plX_sub (θ := θ) (x := a) (k := k) hka).1
      have h2 := plX_put (θ := θ) (u := u) (x := a) (k := k) hka
      rw [if_pos hka, if_pos hka]
      show (if plX θ a k < (a.inst θ).size then Tm.bin s ((a.inst θ).put (plX θ a k) (u.inst θ)) (b.inst θ) else _) = Tm.bin s _ _
      rw [if_pos h1, h2]
    · have h2 := plX_put (θ := θ) (u := u) (x := b) (k := k - a.size) (by simp [Tm.size] at hk; omega)
      rw [if_neg hka, if_neg hka]
      show (if (a.inst θ).size + plX θ b (k - a.size) < (a.inst θ).size then _ else Tm.bin s (a.inst θ) ((b.inst θ).put ((a.inst θ).size + plX θ b (k - a.size) - (a.inst θ).size) (u.inst θ))) = Tm.bin s _ _
      rw [if_neg (by omega), Nat.add_sub_cancel_left, h2]
theorem sb_pos {s : List (List Int)} {n : Int} (h : 0 ≤ n) : sb s n = [n] := by
  unfold sb
  rw [if_neg (by omega)]
theorem app_two (s : List (List Int)) (a b : List Int) : app s (a ++ b) = app s a ++ app s b := by simp [app]
theorem app_cons (s : List (List Int)) (n : Int) (r : List Int) : app s (n :: r) = sb s n ++ app s r := by simp [app]
/-- The place, as the law reckons it. -/
theorem plX_app {s : List (List Int)} {θ : Int → Tm} : ∀ {x : Tm} {k : Nat}, x.ok → (∀ v ∈ x.flat, v < 0 → nthT s (-1 - v).toNat = (θ v).flat) → k < x.size → (app s (x.flat.take k)).length = plX θ x k
  | x, 0, _, _, _ => by rw [plX_zero, List.take_zero]; rfl
  | .leaf s, k + 1, _, _, hk => by simp [Tm.size] at hk
  | .un n a, k + 1, ho, hA, hk => by
    have ih := plX_app (s := s) (θ := θ) (x := a) (k := k) ho.2 (fun v hv h0 => hA v (by simp [Tm.flat, hv]) h0) (by simp [Tm.size] at hk; omega)
    have h0 : 0 ≤ n := by have := ar_pos (s := n) (by rw [show ar n = 1 from ho.1]; decide); omega
    show (app s ((n :: a.flat).take (k + 1))).length = plX θ a k + 1
    rw [List.take_succ_cons, app_cons, sb_pos h0, List.length_append, ih]
    simp; omega
  | .bin n a b, k + 1, ho, hA, hk => by
    have h0 : 0 ≤ n := by have := ar_pos (s := n) (by rw [show ar n = 2 from ho.1]; decide); omega
    have hAa : ∀ v ∈ a.flat, v < 0 → nthT s (-1 - v).toNat = (θ v).flat := fun v hv h0 => hA v (by simp [Tm.flat, hv]) h0
    have hAb : ∀ v ∈ b.flat, v < 0 → nthT s (-1 - v).toNat = (θ v).flat := fun v hv h0 => hA v (by simp [Tm.flat, hv]) h0
    show (app s ((n :: (a.flat ++ b.flat)).take (k + 1))).length = if k < a.size then plX θ a k + 1 else (a.inst θ).size + plX θ b (k - a.size) + 1
    rw [List.take_succ_cons, app_cons, sb_pos h0, List.length_append]
    by_cases hka : k < a.size
    · have ih := plX_app (s := s) (θ := θ) (x := a) (k := k) ho.2.1 hAa hka
      rw [if_pos hka, List.take_append_of_le_length (by rw [size_flat]; omega), ih]
      simp; omega
    · have ih := plX_app (s := s) (θ := θ) (x := b) (k := k - a.size) ho.2.2 hAb (by simp [Tm.size] at hk; omega)
      have e1 : (a.flat ++ b.flat).take k = a.flat ++ b.flat.take (k - a.size) := by
        rw [List.take_append, List.take_of_length_le (by rw [size_flat]; omega), size_flat]
      rw [if_neg hka, e1, app_two, List.length_append, ih, app_flat a ho.2.1 hAa, size_flat]
      simp; omega

/-! ### Leans -/
abbrev Ln := Nat × Nat × List (List Int) × List Int
def noP (_ : Nat) : Bool := false
def lnR (fb : Fb) (l : Rus) (t : List Int) (n : Nat) : List Ln := (lapP fb (nthR l n) t noP t.length).map fun x => (n, x.1, x.2.1, x.2.2)
def lnK (fb : Fb) (l : Rus) (t : List Int) (n : Nat) : List Ln := (List.range n).flatMap (lnR fb l t)
def lnP (fb : Fb) (l : Rus) (t : List Int) : List Ln := lnK fb l t l.length
def lnB (fb : Fb) (l : Rus) (t : List Int) : Bool := (List.range l.length).any fun n => lapsB fb (nthR l n) t noP
theorem lnK_succ (fb : Fb) (l : Rus) (t : List Int) (n : Nat) : lnK fb l t (n + 1) = lnK fb l t n ++ lnR fb l t n := by
  simp [lnK, List.range_succ]
theorem mem_ln {fb : Fb} {l : Rus} {t : List Int} {y : Ln} : y ∈ lnP fb l t ↔ ∃ n, n < l.length ∧ ∃ x ∈ lapP fb (nthR l n) t noP t.length, y = (n, x.1, x.2.1, x.2.2) := by
  unfold lnP lnK lnR
  rw [List.mem_flatMap]
  constructor
  · rintro ⟨n, hn, hy⟩
    obtain ⟨x, hx, rfl⟩ := List.mem_map.1 hy
    exact ⟨n, List.mem_range.1 hn, x, hx, rfl⟩
  · rintro ⟨n, hn, x, hx, rfl⟩
    exact ⟨n, List.mem_range.2 hn, List.mem_map.2 ⟨x, hx, rfl⟩⟩
theorem lnB_no {fb : Fb} {l : Rus} {t : List Int} (h : lnB fb l t = false) {n : Nat} (hn : n < l.length) : lapsB fb (nthR l n) t noP = false := by
  have := List.any_eq_false.1 h n (List.mem_range.2 hn)
  simpa using this

theorem lean_true {fb : Fb} (hfb : FbOk fb) {l : Rus} (hl : Rul l) {t : List Int} (ht : chk t = 0) {y : Ln} (hy : y ∈ lnP fb l t) :
    RightS y.2.2.1 ∧ ((app y.2.2.1 t).length ≤ 30 → chk (app y.2.2.1 t) = 0 ∧ ∃ s ∈ allP l (app y.2.2.1 t) (app y.2.2.1 t).length, s.1 = y.1 ∧ s.2.2 = y.2.2.2) := by
  obtain ⟨n, hn, x, hx, rfl⟩ := mem_ln.1 hy
  obtain ⟨h1, h2, -, h3, h4, h5⟩ := lap_mem hx
  have hr := hl.2 _ (nthR_mem hn)
  obtain ⟨θ, hL⟩ := lap_yes hfb hr ht h1 h3
  rw [← h4, ← h5] at hL
  refine ⟨hL.right, fun h30 => ?_⟩
  have hu := chk_app hL.right ht h30
  refine ⟨hu, ?_⟩
  show ∃ s ∈ allP l (app x.2.1 t) (app x.2.1 t).length, s.1 = n ∧ s.2.2 = x.2.2
  obtain ⟨o1, f1⟩ := tm_chk ht
  have hk := lt_tm ht h1
  have hiok := inst_ok hL.mgu.ok o1
  have e1 : app x.2.1 t = ((tmOf t).inst θ).flat := by
    have := meetS_app (θ := θ) o1 (fun s hs => (signs_of_chk ht s (f1 ▸ hs)).1)
    rw [f1] at this
    rw [hL.sub]; exact this
  obtain ⟨p1, p2⟩ := plX_sub (θ := θ) hk
  have e2 : tmOf (app x.2.1 t) = (tmOf t).inst θ := by rw [e1, tmOf_flat hiok]
  have hm : ((tmOf t).sub x.1).inst θ = (oth (tmOf (nthR l n).1)).inst θ := hL.mgu.same _ (List.mem_singleton.2 rfl)
  have e3 : (tmOf (app x.2.1 t)).sub (plX θ (tmOf t) x.1) = (tmOf (nthR l n).1).inst fun v => θ (v - 4) := by
    rw [e2, p2, hm, oth_inst]
  have hk' : plX θ (tmOf t) x.1 < (app x.2.1 t).length := by rw [e1, size_flat]; exact p1
  obtain ⟨s, g1, g2, g3, g4⟩ := step_of_rw hl hu hk' hn e3
  obtain ⟨σ, hσ, q1, -, q2, -⟩ := stp_tree hl hu hk' hn g1
  refine ⟨s, g2, g3, ?_⟩
  obtain ⟨hcL, hcR⟩ := hl.chk hn
  have hoL := (tm_chk hcL).1
  have e4 : (tmOf (nthR l n).2).inst (sig σ) = (tmOf (nthR l n).2).inst fun v => θ (v - 4) := inst_congr fun v hv0 h0 => by
    refine inst_inj hoL (q2.symm.trans e3) v ?_ h0
    rw [(tm_chk hcR).2] at hv0
    rw [(tm_chk hcL).2]
    exact rule_var (hl.2 _ (nthR_mem hn)) hv0 h0
  rw [q1]
  show puT (app x.2.1 t) (plX θ (tmOf t) x.1) (app σ (nthR l n).2) = x.2.2
  rw [puT_tm hu (app_tm hσ hcR).1.symm hk', e4, ← oth_inst, e2, plX_put hk, hL.tz]

theorem lean_most {fb : Fb} (hfb : FbOk fb) {l : Rus} (hl : Rul l) {t : List Int} (ht : chk t = 0) (ho : ownB t = true) (hB : lnB fb l t = false) {s : List (List Int)} (hs : RightS s) (hu : chk (app s t) = 0) {k : Nat} (hk : k < t.length) (h0 : 0 ≤ nth t k)
    {st : Stp} (hst : st ∈ allP l (app s t) (app s t).length) (hat : st.2.1 = (app s (t.take k)).length) : ∃ y ∈ lnP fb l t, y.2.1 = k ∧ y.1 = st.1 := by
  obtain ⟨k', hk', n, hn, hstp⟩ := mem_all.1 hst
  obtain ⟨σ, hσ, q1, -, q2, -⟩ := stp_tree hl hu hk' hn hstp
  obtain ⟨o1, f1⟩ := tm_chk ht
  have hkk := lt_tm ht hk
  have hsig : ∀ v ∈ (tmOf t).flat, v < 0 → nthT s (-1 - v).toNat = (sig s v).flat := fun v hv h0 => by
    have h8 := (signs_of_chk ht v (f1 ▸ hv)).1
    have hlt : (-1 - v).toNat < s.length := by rw [hs.1]; omega
    exact (tm_chk (hs.2 _ (nthT_mem hlt))).2.symm
  have hp := plX_app o1 hsig hkk
  rw [f1] at hp
  have e0 : k' = plX (sig s) (tmOf t) k := by
    rw [← hp, ← hat, q1]
  obtain ⟨a1, a2⟩ := app_tm hs ht
  have e2 : tmOf (app s t) = (tmOf t).inst (sig s) := by rw [a1, tmOf_flat a2]
  obtain ⟨p1, p2⟩ := plX_sub (θ := sig s) hkk
  have hown : ∀ v ∈ ((tmOf t).sub k).flat, -4 ≤ v := fun v hv => by
    have : v ∈ t := by
      obtain ⟨pre, r, h1, h2, -⟩ := sub_split (tmOf t) k hkk
      rw [← f1, h2]; simp [hv]
    simpa using List.all_eq_true.1 ho v this
  have e3 : ((tmOf t).sub k).inst (mix (sig s) (sig σ)) = (oth (tmOf (nthR l n).1)).inst (mix (sig s) (sig σ)) := by
    rw [oth_mix, inst_mix hown, ← p2, ← e2, ← e0, q2]
  obtain ⟨x, hx, hxk⟩ := lap_found hfb (hl.2 _ (nthR_mem hn)) ht (lnB_no hB hn) hk h0 rfl e3
  refine ⟨(n, x.1, x.2.1, x.2.2), mem_ln.2 ⟨n, hn, x, hx, rfl⟩, hxk, ?_⟩
  rw [q1]

end Go.Proofs.Ytepddehodmljeaa
