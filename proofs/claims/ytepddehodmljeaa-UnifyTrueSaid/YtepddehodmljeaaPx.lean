/- Plain: what Meet answers, and what holds of it. No program in sight. -/
import Derived.Test.YtepddehodmljeaaPw
import Derived.Test.YtepddehodmljeaaG5
namespace Go.Proofs.Ytepddehodmljeaa

theorem St.signs {β : Bn} {θ : Int → Tm} (h : St β θ) : ∀ v, -8 ≤ v → v < 0 → ∀ s ∈ (θ v).flat, -8 ≤ s ∧ s < 6 := by
  obtain ⟨r, hr⟩ := h.rk
  have main : ∀ n v, -8 ≤ v → v < 0 → r v < n → ∀ s ∈ (θ v).flat, -8 ≤ s ∧ s < 6 := by
    intro n
    induction n with
    | zero => intro v _ _ h; omega
    | succ n ih =>
      intro v h8 hv hn s hs
      cases hb : β v with
      | none =>
        rw [h.res.free v hb] at hs
        simp [Tm.flat] at hs
        omega
      | some t =>
        rw [h.res.sat v t hb] at hs
        obtain ⟨-, h2, -⟩ := h.low v t hb
        by_cases h0 : s < 0
        · obtain ⟨u, hu0, hut, hsu⟩ := (mem_inst h0 (h.key v t hb).2).1 hs
          exact ih u (h2 u hut).1 hu0 (by have := hr v t hb u hut hu0; omega) s hsu
        · have : ∀ x : Tm, x.ok → s ∈ (x.inst θ).flat → s ∈ x.flat ∨ ∃ u, u < 0 ∧ u ∈ x.flat ∧ s ∈ (θ u).flat := by
            intro x
            induction x with
            | leaf q =>
              intro _ hq
              by_cases hq0 : q < 0
              · have e : (Tm.leaf q).inst θ = θ q := if_pos hq0
                rw [e] at hq
                exact .inr ⟨q, hq0, by simp [Tm.flat], hq⟩
              · have e : (Tm.leaf q).inst θ = .leaf q := if_neg hq0
                rw [e] at hq
                exact .inl hq
            | un q a iha =>
              intro hx hq
              have hq' : s ∈ q :: (a.inst θ).flat := hq
              rcases List.mem_cons.1 hq' with rfl | hq'
              · exact .inl (by simp [Tm.flat])
              · rcases iha hx.2 hq' with h1 | ⟨u, g1, g2, g3⟩
                · exact .inl (by simp [Tm.flat, h1])
                · exact .inr ⟨u, g1, by simp [Tm.flat, g2], g3⟩
            | bin q a b iha ihb =>
              intro hx hq
              have hq' : s ∈ q :: ((a.inst θ).flat ++ (b.inst θ).flat) := hq
              rcases List.mem_cons.1 hq' with rfl | hq'
              · exact .inl (by simp [Tm.flat])
              · rcases List.mem_append.1 hq' with hq' | hq'
                · rcases iha hx.2.1 hq' with h1 | ⟨u, g1, g2, g3⟩
                  · exact .inl (by simp [Tm.flat, h1])
                  · exact .inr ⟨u, g1, by simp [Tm.flat, g2], g3⟩
                · rcases ihb hx.2.2 hq' with h1 | ⟨u, g1, g2, g3⟩
                  · exact .inl (by simp [Tm.flat, h1])
                  · exact .inr ⟨u, g1, by simp [Tm.flat, g2], g3⟩
          rcases this t (h.key v t hb).2 hs with h3 | ⟨u, g1, g2, g3⟩
          · exact h2 s h3
          · exact ih u (h2 u g2).1 g1 (by have := hr v t hb u g2 g1; omega) s g3
  exact fun v h8 hv => main (r v + 1) v h8 hv (by omega)

def meetS (θ : Int → Tm) : List (List Int) := (List.range 8).map fun k : Nat => (θ (-1 - (k : Int))).flat
def smallS (θ : Int → Tm) : Prop := ∀ k : Nat, k < 8 → (θ (-1 - (k : Int))).size ≤ 30
def SgS (θ : Int → Tm) : Prop := ∀ v, -8 ≤ v → v < 0 → ∀ s ∈ (θ v).flat, -8 ≤ s ∧ s < 6

/-- What Solve answers, of right pairs. -/
def SolveR (l : List (Tm × Tm)) (s : List (List Int)) (is : Bool) (e : Int) : Prop :=
  (s = [] ∧ is = false ∧ e = 0 ∧ ∀ τ : Int → Tm, ¬ ∀ p ∈ l, p.1.inst τ = p.2.inst τ) ∨
  ∃ θ, Mgu l θ ∧ SgS θ ∧ ((smallS θ ∧ s = meetS θ ∧ is = true ∧ e = 0) ∨ (¬ smallS θ ∧ s = [] ∧ is = false ∧ e = 2))
def MeetR (a b : List Int) (s : List (List Int)) (is : Bool) (e : Int) : Prop :=
  if chk2 a b = 0 then SolveR [(tmOf a, tmOf b)] s is e else s = [] ∧ is = false ∧ e = chk2 a b

theorem meetS_nth {θ : Int → Tm} {v : Int} (h1 : -8 ≤ v) (h2 : v < 0) : nthT (meetS θ) (-1 - v).toNat = (θ v).flat := by
  have hk : (-1 - v).toNat < 8 := by omega
  have hl : (-1 - v).toNat < (meetS θ).length := by simp [meetS]; omega
  rw [nthT_eq hl]
  simp only [meetS, List.getElem_map, List.getElem_range]
  congr 2
  omega
theorem meetS_right {l : List (Tm × Tm)} {θ : Int → Tm} (h : Mgu l θ) (hg : SgS θ) (hs : smallS θ) : RightS (meetS θ) := by
  refine ⟨by simp [meetS], fun t ht => ?_⟩
  obtain ⟨k, hk, rfl⟩ := List.mem_map.1 ht
  have hk' := List.mem_range.1 hk
  exact chk_of (by rw [size_flat]; exact hs k hk') (hg _ (by omega) (by omega)) (need_tm (h.ok _ (by omega)))
theorem meetS_app {θ : Int → Tm} {x : Tm} (hx : x.ok) (hs : ∀ s ∈ x.flat, -8 ≤ s) : app (meetS θ) x.flat = (x.inst θ).flat :=
  app_flat x hx fun v hv h0 => meetS_nth (hs v hv) h0

theorem chk2_symm {a b : List Int} (h : chk2 a b = 0) : chk2 b a = 0 := by
  obtain ⟨h1, h2⟩ := chk2_zero h
  rw [chk2, if_pos h2, h1]

/-- The other way round the same comes. -/
theorem meet_swap {a b : List Int} {s u : List (List Int)} {is io : Bool} {e f : Int} (h : MeetR a b s is e) (he : e = 0) (k : MeetR b a u io f) : f = 0 ∧ io = is ∧ s = u := by
  subst he
  by_cases hc : chk2 a b = 0
  · rw [MeetR, if_pos hc] at h
    rw [MeetR, if_pos (chk2_symm hc)] at k
    have hsw : ∀ τ : Int → Tm, (∀ p ∈ [(tmOf a, tmOf b)], p.1.inst τ = p.2.inst τ) ↔ ∀ p ∈ [(tmOf b, tmOf a)], p.1.inst τ = p.2.inst τ := by
      intro τ; simp; exact ⟨Eq.symm, Eq.symm⟩
    rcases h with ⟨rfl, rfl, -, hn⟩ | ⟨θ, hθ, hg, h⟩
    · rcases k with ⟨rfl, rfl, rfl, -⟩ | ⟨τ, hτ, -, -⟩
      · exact ⟨rfl, rfl, rfl⟩
      · exact absurd ((hsw τ).2 hτ.same) (hn τ)
    · rcases k with ⟨-, -, -, hn⟩ | ⟨τ, hτ, hg', k⟩
      · exact absurd ((hsw θ).1 hθ.same) (hn θ)
      · have hu := hθ.unique hτ hsw
        have hsz : smallS θ ↔ smallS τ := by
          unfold smallS
          exact ⟨fun h k hk => by rw [← hu _ (by omega)]; exact h k hk, fun h k hk => by rw [hu _ (by omega)]; exact h k hk⟩
        have hms : meetS θ = meetS τ := by
          unfold meetS
          refine List.map_congr_left fun k _ => ?_
          rw [hu _ (by omega)]
        rcases h with ⟨g1, rfl, rfl, -⟩ | ⟨-, -, -, g⟩
        · rcases k with ⟨-, rfl, rfl, rfl⟩ | ⟨g2, -⟩
          · exact ⟨rfl, rfl, hms⟩
          · exact absurd (hsz.1 g1) g2
        · cases g
  · rw [MeetR, if_neg hc] at h
    exact absurd h.2.2.symm hc

theorem meet_yes {a b : List Int} {s : List (List Int)} {e : Int} (h : MeetR a b s true e) : chk2 a b = 0 ∧ e = 0 ∧ ∃ θ, Mgu [(tmOf a, tmOf b)] θ ∧ SgS θ ∧ smallS θ ∧ s = meetS θ := by
  by_cases hc : chk2 a b = 0
  · rw [MeetR, if_pos hc] at h
    rcases h with ⟨-, h, -⟩ | ⟨θ, hθ, hg, ⟨h1, h2, -, h3⟩ | ⟨-, -, h, -⟩⟩
    · cases h
    · exact ⟨hc, h3, θ, hθ, hg, h1, h2⟩
    · cases h
  · rw [MeetR, if_neg hc] at h
    exact absurd h.2.1 (by decide)

/-- What comes makes both the same; done twice it is done once. -/
theorem meet_true {a b : List Int} {s : List (List Int)} {e : Int} (h : MeetR a b s true e) : applyE s a = applyE s b ∧ applyT s a = applyT s b ∧ afterE s s = 0 ∧ afterT s s = s := by
  obtain ⟨hc, -, θ, hθ, hg, hsm, rfl⟩ := meet_yes h
  obtain ⟨ha, hb⟩ := chk2_zero hc
  have hr := meetS_right hθ hg hsm
  obtain ⟨hxa, hfa⟩ := tm_chk ha
  obtain ⟨hxb, hfb⟩ := tm_chk hb
  have e1 : app (meetS θ) a = app (meetS θ) b := by
    have h1 := meetS_app (θ := θ) hxa (by rw [hfa]; exact fun s hs => (signs_of_chk ha s hs).1)
    have h2 := meetS_app (θ := θ) hxb (by rw [hfb]; exact fun s hs => (signs_of_chk hb s hs).1)
    rw [hfa] at h1
    rw [hfb] at h2
    rw [h1, h2, hθ.same (tmOf a, tmOf b) (by simp)]
  have e2 : aft (meetS θ) (meetS θ) = meetS θ := by
    unfold aft
    rw [meetS, List.map_map]
    refine List.map_congr_left fun k hk => ?_
    have hk' := List.mem_range.1 hk
    have hv : (-1 - (k : Int)) < 0 := by omega
    show app (meetS θ) (θ (-1 - (k : Int))).flat = (θ (-1 - (k : Int))).flat
    rw [meetS_app (hθ.ok _ hv) (fun s hs => (hg _ (by omega) hv s hs).1), hθ.twice _ hv]
  have e3 : bigL (meetS θ) = false := by
    unfold bigL
    rw [List.any_eq_false]
    intro t ht
    have := len_of_chk (hr.2 t ht)
    simp; omega
  have hE : applyE (meetS θ) a = applyE (meetS θ) b := by
    have h0 : ¬ chkS (meetS θ) ≠ 0 := by rw [chkS_zero.2 hr]; decide
    have hc : ∀ c, chk c = 0 → applyE (meetS θ) c = if 30 < (app (meetS θ) c).length then 2 else 0 := fun c hc => by rw [applyE, if_neg h0, if_neg (by rw [hc]; decide)]
    rw [hc a ha, hc b hb, e1]
  refine ⟨hE, ?_, ?_, ?_⟩
  · rw [applyT, applyT, hE, e1]
  · rw [afterE, if_neg (by rw [chkS_zero.2 hr]; decide), if_neg (by rw [chkS_zero.2 hr]; decide), e2, e3]; rfl
  · have : afterE (meetS θ) (meetS θ) = 0 := by
      rw [afterE, if_neg (by rw [chkS_zero.2 hr]; decide), if_neg (by rw [chkS_zero.2 hr]; decide), e2, e3]; rfl
    rw [afterT, if_pos this, e2]

/-- Whatever else makes both the same is made of what comes. -/
theorem meet_most {a b : List Int} {u s : List (List Int)} {is : Bool} {e : Int} (ha : applyE u a = 0) (hb : applyE u b = 0) (hab : applyT u a = applyT u b) (h : MeetR a b s is e) :
    (e ≠ 0 → e = 2) ∧ (e = 0 → is = true ∧ afterE s u = 0 ∧ afterT s u = u) := by
  obtain ⟨hu, hca, hla⟩ := applyE_zero ha
  obtain ⟨-, hcb, hlb⟩ := applyE_zero hb
  have hR := chkS_zero.1 hu
  rw [(apply_ok hu hca hla).2, (apply_ok hu hcb hlb).2] at hab
  have hc : chk2 a b = 0 := by rw [chk2, if_pos hca, hcb]
  rw [MeetR, if_pos hc] at h
  have hsame : ∀ p ∈ [(tmOf a, tmOf b)], p.1.inst (sig u) = p.2.inst (sig u) := by
    intro p hp
    simp at hp
    subst hp
    obtain ⟨e1, k1⟩ := app_tm hR hca
    obtain ⟨e2, k2⟩ := app_tm hR hcb
    exact flat_eq k1 k2 (by rw [← e1, ← e2, hab])
  rcases h with ⟨-, -, -, hn⟩ | ⟨θ, hθ, hg, ⟨hsm, rfl, rfl, rfl⟩ | ⟨-, -, -, rfl⟩⟩
  · exact absurd hsame (hn (sig u))
  · refine ⟨fun h => absurd rfl h, fun _ => ⟨rfl, ?_⟩⟩
    have hr := meetS_right hθ hg hsm
    have e2 : aft (meetS θ) u = u := by
      apply extT
      · simp [aft, meetS, hR.1]
      · intro j hj
        have hj8 : j < 8 := by simpa [aft, meetS] using hj
        have hv : (-1 - (j : Int)) < 0 := by omega
        have hjl : j < (aft (meetS θ) u).length := hj
        rw [nthT_eq hjl]
        simp only [aft, meetS, List.getElem_map, List.getElem_range]
        have h1 := hθ.ok _ hv
        rw [app_sig hR h1 (fun s hs => (hg _ (by omega) hv s hs).1), hθ.most (sig u) hsame _ hv, sig_flat hR (by omega) hv]
        congr 1
        omega
    have e3 : bigL u = false := by
      unfold bigL
      rw [List.any_eq_false]
      intro t ht
      have := len_of_chk (hR.2 t ht)
      simp; omega
    have hE : afterE (meetS θ) u = 0 := by
      rw [afterE, if_neg (by rw [chkS_zero.2 hr]; decide), if_neg (by rw [hu]; decide), e2, e3]; rfl
    exact ⟨hE, by rw [afterT, if_pos hE, e2]⟩
  · exact ⟨fun _ => rfl, fun h => by cases h⟩

end Go.Proofs.Ytepddehodmljeaa
