/- Plain: meeting, reckoned; what Solve answers as a function. No program in sight. -/
import Derived.Test.YtepddehodmljeaaPx
namespace Go.Proofs.Ytepddehodmljeaa

/-- One variable more becomes something. -/
def bdS (θ : Int → Tm) (v : Int) (t : Tm) : Int → Tm := fun u => (θ u).inst fun w => if w = v then t else .leaf w

theorem inst_bdS (θ : Int → Tm) (v : Int) (t x : Tm) : x.inst (bdS θ v t) = (x.inst θ).inst fun w => if w = v then t else .leaf w := (inst_inst x).symm

theorem mgu_bind {l : List (Tm × Tm)} {θ : Int → Tm} (h : Mgu l θ) {a b : Tm} {v : Int} {t : Tm} (hv : v < 0) (ht : t.ok) (hn : v ∉ t.flat) (hu : ∀ w, t = .leaf w → w < 0 → v < w)
    (hab : (a.inst θ = .leaf v ∧ b.inst θ = t) ∨ (b.inst θ = .leaf v ∧ a.inst θ = t)) : Mgu ((a, b) :: l) (bdS θ v t) := by
  have hσo : OkS fun w => if w = v then t else .leaf w := fun w hw => by
    show (if w = v then t else Tm.leaf w).ok
    split
    · exact ht
    · show ar w = 0; unfold ar; rw [if_pos (by omega)]
  have hts : t.inst (fun w => if w = v then t else .leaf w) = t := by
    have : t.inst (fun w => if w = v then t else .leaf w) = t.inst .leaf := inst_congr fun w hw _ => if_neg fun e => hn (by rw [← e]; exact hw)
    rw [this, inst_self _ ht]
  have hvs : (Tm.leaf v).inst (fun w => if w = v then t else .leaf w) = t := by
    have e : (Tm.leaf v).inst (fun w => if w = v then t else .leaf w) = if v = v then t else .leaf v := if_pos hv
    rw [e, if_pos rfl]
  refine ⟨fun w hw => inst_ok hσo (h.ok w hw), ?_, ?_, ?_⟩
  · intro p hp
    rw [inst_bdS, inst_bdS]
    rcases List.mem_cons.1 hp with rfl | hp
    · rcases hab with ⟨e1, e2⟩ | ⟨e1, e2⟩
      · show ((a.inst θ).inst _) = ((b.inst θ).inst _)
        rw [e1, e2, hts, hvs]
      · show ((a.inst θ).inst _) = ((b.inst θ).inst _)
        rw [e1, e2, hts, hvs]
    · rw [h.same p hp]
  · intro τ hτ
    have hm := h.most τ fun p hp => hτ p (List.mem_cons_of_mem _ hp)
    have hx : ∀ x : Tm, (x.inst θ).inst τ = x.inst τ := fun x => by
      rw [inst_inst]; exact inst_congr fun w _ hw => hm w hw
    have hab' : a.inst τ = b.inst τ := hτ (a, b) (List.mem_cons_self ..)
    have hvt : t.inst τ = τ v := by
      have e : (Tm.leaf v).inst τ = τ v := if_pos hv
      rcases hab with ⟨e1, e2⟩ | ⟨e1, e2⟩
      · rw [← e2, hx, ← hab', ← hx, e1, e]
      · rw [← e2, hx, hab', ← hx, e1, e]
    intro u hu
    show ((θ u).inst _).inst τ = τ u
    rw [inst_inst, ← hm u hu]
    refine inst_congr fun w _ hw => ?_
    show (if w = v then t else Tm.leaf w).inst τ = τ w
    split
    · rw [hvt]; congr 1; exact Eq.symm (by assumption)
    · exact if_pos hw
  · intro u w hu hw e
    have e' : (θ u).inst (fun w => if w = v then t else .leaf w) = .leaf w := e
    cases hz : θ u with
    | un s x => rw [hz] at e'; cases e'
    | bin s x y => rw [hz] at e'; cases e'
    | leaf z =>
      rw [hz] at e'
      by_cases h0 : z < 0
      · have g := h.great u z hu h0 hz
        have e1 : (Tm.leaf z).inst (fun w => if w = v then t else .leaf w) = if z = v then t else .leaf z := if_pos h0
        rw [e1] at e'
        split at e'
        · have := hu
          have := ‹z = v›
          have := ‹∀ w, t = .leaf w → w < 0 → v < w› w e' hw
          omega
        · cases e'; omega
      · have e1 : (Tm.leaf z).inst (fun w => if w = v then t else .leaf w) = .leaf z := if_neg h0
        rw [e1] at e'
        cases e'; omega

/-- Two terms made the same, behind what is so already; none: no fuel; some none: nothing does. -/
def uF : Nat → (Int → Tm) → Tm → Tm → Option (Option (Int → Tm))
  | 0, _, _, _ => none
  | n + 1, θ, a, b =>
    if a.inst θ = b.inst θ then some (some θ)
    else match a.inst θ, b.inst θ with
      | .un s x, .un s' y => if s = s' then uF n θ x y else some none
      | .bin s x y, .bin s' x' y' =>
        if s = s' then (match uF n θ x x' with
          | some (some θ') => uF n θ' y y'
          | r => r) else some none
      | .leaf v, y =>
        if v < 0 then (match y with
          | .leaf w => if w < 0 then (if v < w then some (some (bdS θ v (.leaf w))) else some (some (bdS θ w (.leaf v)))) else some (some (bdS θ v (.leaf w)))
          | y => if y.flat.contains v then some none else some (some (bdS θ v y)))
        else (match y with
          | .leaf w => if w < 0 then some (some (bdS θ w (.leaf v))) else some none
          | _ => some none)
      | x, .leaf w => if w < 0 then (if x.flat.contains w then some none else some (some (bdS θ w x))) else some none
      | _, _ => some none

/-- What has come of it. -/
def UfR (l : List (Tm × Tm)) (a b : Tm) : Option (Option (Int → Tm)) → Prop
  | none => True
  | some none => ∀ τ : Int → Tm, ¬ ∀ p ∈ (a, b) :: l, p.1.inst τ = p.2.inst τ
  | some (some θ) => Mgu ((a, b) :: l) θ

theorem mgu_iff {l m : List (Tm × Tm)} {θ : Int → Tm} (h : Mgu l θ) (hlm : ∀ τ : Int → Tm, (∀ p ∈ l, p.1.inst τ = p.2.inst τ) ↔ (∀ p ∈ m, p.1.inst τ = p.2.inst τ)) : Mgu m θ :=
  ⟨h.ok, (hlm θ).1 h.same, fun τ hτ => h.most τ ((hlm τ).2 hτ), h.great⟩

theorem size_inst_le {τ : Int → Tm} {v : Int} (hv : v < 0) {x : Tm} (hx : x.ok) (hm : v ∈ x.flat) (h0 : 0 ≤ x.sg) (e : (Tm.leaf v).inst τ = x.inst τ) : False := by
  have h1 := (inst_size_var (θ := τ) hv hx hm).2 h0
  have e1 : (Tm.leaf v).inst τ = τ v := if_pos hv
  rw [← e, e1] at h1
  omega

theorem UfR.iff {l m : List (Tm × Tm)} {a b x y : Tm} {r : Option (Option (Int → Tm))} (h : UfR l a b r)
    (hlm : ∀ τ : Int → Tm, (∀ p ∈ (a, b) :: l, p.1.inst τ = p.2.inst τ) ↔ (∀ p ∈ (x, y) :: m, p.1.inst τ = p.2.inst τ)) : UfR m x y r := by
  match r, h with
  | none, _ => trivial
  | some none, h => exact fun τ k => h τ ((hlm τ).2 k)
  | some (some θ), h => exact mgu_iff h hlm

theorem uF_right : ∀ (n : Nat) {l : List (Tm × Tm)} {θ : Int → Tm} (a b : Tm), Mgu l θ → a.ok → b.ok → UfR l a b (uF n θ a b)
  | 0, _, _, _, _, _, _, _ => trivial
  | n + 1, l, θ, a, b, h, ha, hb => by
    have hoa := inst_ok h.ok ha
    have hob := inst_ok h.ok hb
    have hx : ∀ (τ : Int → Tm), (∀ p ∈ l, p.1.inst τ = p.2.inst τ) → ∀ x : Tm, (x.inst θ).inst τ = x.inst τ := fun τ hτ x => by
      rw [inst_inst]; exact inst_congr fun w _ hw => h.most τ hτ w hw
    have key : ∀ (τ : Int → Tm), (∀ p ∈ (a, b) :: l, p.1.inst τ = p.2.inst τ) ↔ ((a.inst θ).inst τ = (b.inst θ).inst τ ∧ ∀ p ∈ l, p.1.inst τ = p.2.inst τ) := by
      intro τ
      constructor
      · intro hp
        have h2 : ∀ p ∈ l, p.1.inst τ = p.2.inst τ := fun p hq => hp p (List.mem_cons_of_mem _ hq)
        exact ⟨by rw [hx τ h2, hx τ h2]; exact hp (a, b) (List.mem_cons_self ..), h2⟩
      · rintro ⟨h1, h2⟩ p hp
        rcases List.mem_cons.1 hp with rfl | hp
        · rw [hx τ h2, hx τ h2] at h1; exact h1
        · exact h2 p hp
    have keyc : ∀ (τ : Int → Tm) (x y : Tm), (∀ p ∈ (x, y) :: l, p.1.inst τ = p.2.inst τ) ↔ (x.inst τ = y.inst τ ∧ ∀ p ∈ l, p.1.inst τ = p.2.inst τ) := by
      intro τ x y
      exact ⟨fun hp => ⟨hp (x, y) (List.mem_cons_self ..), fun p hq => hp p (List.mem_cons_of_mem _ hq)⟩, fun ⟨h1, h2⟩ p hp => by
        rcases List.mem_cons.1 hp with rfl | hp
        · exact h1
        · exact h2 p hp⟩
    unfold uF
    by_cases he : a.inst θ = b.inst θ
    · rw [if_pos he]
      exact mgu_iff h fun τ => ⟨fun k => (key τ).2 ⟨by rw [he], k⟩, fun k => ((key τ).1 k).2⟩
    · rw [if_neg he]
      have hleaf : ∀ v : Int, ∀ y : Tm, v < 0 → (v ∈ y.flat ∧ 0 ≤ y.sg) → y.ok → ∀ τ : Int → Tm, (Tm.leaf v).inst τ ≠ y.inst τ := fun v y hv hm hy τ e => size_inst_le hv hy hm.1 hm.2 e
      cases hA : a.inst θ with
      | leaf v =>
        rw [hA] at he hoa
        cases hB : b.inst θ with
        | leaf w =>
          rw [hB] at he hob
          have hvw : v ≠ w := fun e => he (by rw [e])
          dsimp only
          by_cases hv : v < 0
          · rw [if_pos hv]
            by_cases hw : w < 0
            · rw [if_pos hw]
              by_cases hl : v < w
              · rw [if_pos hl]
                exact mgu_bind h hv hob (by simp [Tm.flat]; omega) (fun u e _ => by cases e; exact hl) (.inl ⟨hA, hB⟩)
              · rw [if_neg hl]
                exact mgu_bind h hw hoa (by simp [Tm.flat]; omega) (fun u e _ => by cases e; omega) (.inr ⟨hB, hA⟩)
            · rw [if_neg hw]
              exact mgu_bind h hv hob (by simp [Tm.flat]; omega) (fun u e _ => by cases e; omega) (.inl ⟨hA, hB⟩)
          · rw [if_neg hv]
            by_cases hw : w < 0
            · rw [if_pos hw]
              exact mgu_bind h hw hoa (by simp [Tm.flat]; omega) (fun u e _ => by cases e; omega) (.inr ⟨hB, hA⟩)
            · rw [if_neg hw]
              intro τ k
              have := ((key τ).1 k).1
              rw [hA, hB] at this
              have e1 : (Tm.leaf v).inst τ = .leaf v := if_neg hv
              have e2 : (Tm.leaf w).inst τ = .leaf w := if_neg hw
              rw [e1, e2] at this
              exact he this
        | un s y =>
          rw [hB] at hob
          dsimp only
          have hs : 0 ≤ s := by have := ar_pos (s := s) (by rw [hob.1]; decide); omega
          by_cases hv : v < 0
          · rw [if_pos hv]
            by_cases hm : (Tm.un s y).flat.contains v = true
            · rw [if_pos hm]
              intro τ k
              have := ((key τ).1 k).1
              rw [hA, hB] at this
              refine hleaf v _ hv ⟨?_, ?_⟩ hob τ this
              · simpa using hm
              · exact hs
            · rw [if_neg hm]
              exact mgu_bind h hv hob (by simpa using hm) (fun u e _ => by cases e) (.inl ⟨hA, hB⟩)
          · rw [if_neg hv]
            intro τ k
            have := ((key τ).1 k).1
            rw [hA, hB] at this
            have e1 : (Tm.leaf v).inst τ = .leaf v := if_neg hv
            rw [e1] at this
            cases this
        | bin s y z =>
          rw [hB] at hob
          dsimp only
          have hs : 0 ≤ s := by have := ar_pos (s := s) (by rw [hob.1]; decide); omega
          by_cases hv : v < 0
          · rw [if_pos hv]
            by_cases hm : (Tm.bin s y z).flat.contains v = true
            · rw [if_pos hm]
              intro τ k
              have := ((key τ).1 k).1
              rw [hA, hB] at this
              refine hleaf v _ hv ⟨?_, ?_⟩ hob τ this
              · simpa using hm
              · exact hs
            · rw [if_neg hm]
              exact mgu_bind h hv hob (by simpa using hm) (fun u e _ => by cases e) (.inl ⟨hA, hB⟩)
          · rw [if_neg hv]
            intro τ k
            have := ((key τ).1 k).1
            rw [hA, hB] at this
            have e1 : (Tm.leaf v).inst τ = .leaf v := if_neg hv
            rw [e1] at this
            cases this
      | un s x =>
        rw [hA] at hoa
        have hs : 0 ≤ s := by have := ar_pos (s := s) (by rw [hoa.1]; decide); omega
        cases hB : b.inst θ with
        | leaf w =>
          dsimp only
          by_cases hw : w < 0
          · rw [if_pos hw]
            by_cases hm : (Tm.un s x).flat.contains w = true
            · rw [if_pos hm]
              intro τ k
              have := ((key τ).1 k).1
              rw [hA, hB] at this
              refine hleaf w _ hw ⟨?_, ?_⟩ hoa τ this.symm
              · simpa using hm
              · exact hs
            · rw [if_neg hm]
              exact mgu_bind h hw hoa (by simpa using hm) (fun u e _ => by cases e) (.inr ⟨hB, hA⟩)
          · rw [if_neg hw]
            intro τ k
            have := ((key τ).1 k).1
            rw [hA, hB] at this
            have e1 : (Tm.leaf w).inst τ = .leaf w := if_neg hw
            rw [e1] at this
            cases this
        | un s' y =>
          rw [hB] at hob
          dsimp only
          by_cases hss : s = s'
          · rw [if_pos hss]
            subst hss
            refine UfR.iff (uF_right n x y h hoa.2 hob.2) fun τ => ?_
            rw [keyc, key, hA, hB]
            refine and_congr_left fun _ => ?_
            show _ ↔ Tm.un s (x.inst τ) = .un s (y.inst τ)
            simp
          · rw [if_neg hss]
            intro τ k
            have := ((key τ).1 k).1
            rw [hA, hB] at this
            have : Tm.un s (x.inst τ) = .un s' (y.inst τ) := this
            injection this with e1
            exact hss e1
        | bin s' y z =>
          dsimp only
          intro τ k
          have := ((key τ).1 k).1
          rw [hA, hB] at this
          cases this
      | bin s x y =>
        rw [hA] at hoa
        have hs : 0 ≤ s := by have := ar_pos (s := s) (by rw [hoa.1]; decide); omega
        cases hB : b.inst θ with
        | leaf w =>
          dsimp only
          by_cases hw : w < 0
          · rw [if_pos hw]
            by_cases hm : (Tm.bin s x y).flat.contains w = true
            · rw [if_pos hm]
              intro τ k
              have := ((key τ).1 k).1
              rw [hA, hB] at this
              refine hleaf w _ hw ⟨?_, ?_⟩ hoa τ this.symm
              · simpa using hm
              · exact hs
            · rw [if_neg hm]
              exact mgu_bind h hw hoa (by simpa using hm) (fun u e _ => by cases e) (.inr ⟨hB, hA⟩)
          · rw [if_neg hw]
            intro τ k
            have := ((key τ).1 k).1
            rw [hA, hB] at this
            have e1 : (Tm.leaf w).inst τ = .leaf w := if_neg hw
            rw [e1] at this
            cases this
        | un s' z =>
          dsimp only
          intro τ k
          have := ((key τ).1 k).1
          rw [hA, hB] at this
          cases this
        | bin s' x' y' =>
          rw [hB] at hob
          dsimp only
          by_cases hss : s = s'
          · rw [if_pos hss]
            subst hss
            have h1 := uF_right n x x' h hoa.2.1 hob.2.1
            have hk : ∀ τ : Int → Tm, (∀ p ∈ (a, b) :: l, p.1.inst τ = p.2.inst τ) ↔ ((x.inst τ = x'.inst τ ∧ y.inst τ = y'.inst τ) ∧ ∀ p ∈ l, p.1.inst τ = p.2.inst τ) := by
              intro τ
              rw [key, hA, hB]
              refine and_congr_left fun _ => ?_
              show Tm.bin s (x.inst τ) (y.inst τ) = .bin s (x'.inst τ) (y'.inst τ) ↔ _
              simp
            cases hr : uF n θ x x' with
            | none => trivial
            | some r =>
              rw [hr] at h1
              cases r with
              | none =>
                intro τ k
                exact h1 τ ((keyc τ x x').2 ⟨((hk τ).1 k).1.1, ((hk τ).1 k).2⟩)
              | some θ' =>
                refine UfR.iff (uF_right n y y' h1 hoa.2.2 hob.2.2) fun τ => ?_
                rw [hk]
                constructor
                · intro k
                  have k2 := (keyc τ x x').1 fun p hp => k p (List.mem_cons_of_mem _ hp)
                  exact ⟨⟨k2.1, k (y, y') (List.mem_cons_self ..)⟩, k2.2⟩
                · rintro ⟨⟨k1, k2⟩, k3⟩ p hp
                  rcases List.mem_cons.1 hp with rfl | hp
                  · exact k2
                  · exact (keyc τ x x').2 ⟨k1, k3⟩ p hp
          · rw [if_neg hss]
            intro τ k
            have := ((key τ).1 k).1
            rw [hA, hB] at this
            have : Tm.bin s (x.inst τ) (y.inst τ) = .bin s' (x'.inst τ) (y'.inst τ) := this
            injection this with e1
            exact hss e1

/-- Pairs, one behind the other. -/
def solF (n : Nat) : List (Tm × Tm) → (Int → Tm) → Option (Option (Int → Tm))
  | [], θ => some (some θ)
  | (a, b) :: l, θ => match uF n θ a b with
    | some (some θ') => solF n l θ'
    | r => r
def SoR (l : List (Tm × Tm)) : Option (Option (Int → Tm)) → Prop
  | none => True
  | some none => ∀ τ : Int → Tm, ¬ ∀ p ∈ l, p.1.inst τ = p.2.inst τ
  | some (some θ) => Mgu l θ
theorem solF_right (n : Nat) : ∀ (l m : List (Tm × Tm)) (θ : Int → Tm), (∀ p ∈ l, p.1.ok ∧ p.2.ok) → Mgu m θ → SoR (l ++ m) (solF n l θ)
  | [], _, _, _, h => h
  | (a, b) :: l, m, θ, hl, h => by
    have h1 := uF_right n a b h (hl (a, b) (List.mem_cons_self ..)).1 (hl (a, b) (List.mem_cons_self ..)).2
    show SoR _ (match uF n θ a b with
      | some (some θ') => solF n l θ'
      | r => r)
    cases hr : uF n θ a b with
    | none => trivial
    | some r =>
      rw [hr] at h1
      cases r with
      | none =>
        intro τ k
        exact h1 τ fun p hp => k p (by
          rcases List.mem_cons.1 hp with rfl | hp
          · simp
          · simp [hp])
      | some θ' =>
        have h2 := solF_right n l ((a, b) :: m) θ' (fun p hp => hl p (List.mem_cons_of_mem _ hp)) h1
        have hiff : ∀ τ : Int → Tm, (∀ p ∈ l ++ (a, b) :: m, p.1.inst τ = p.2.inst τ) ↔ (∀ p ∈ (a, b) :: l ++ m, p.1.inst τ = p.2.inst τ) := by
          intro τ
          constructor
          · intro k p hp
            exact k p (by simp at hp ⊢; rcases hp with hp | hp | hp <;> simp [hp])
          · intro k p hp
            exact k p (by simp at hp ⊢; rcases hp with hp | hp | hp <;> simp [hp])
        dsimp only
        match hs : solF n l θ', h2 with
        | none, _ => trivial
        | some none, h2 => exact fun τ k => h2 τ ((hiff τ).2 k)
        | some (some θ2), h2 => exact mgu_iff h2 hiff

theorem mgu_nil : Mgu [] .leaf :=
  ⟨fun v hv => by show ar v = 0; unfold ar; rw [if_pos (by omega)], fun p hp => by simp at hp, fun τ _ v hv => if_pos hv, fun v w _ _ e => by cases e; omega⟩

def smB (θ : Int → Tm) : Bool := (List.range 8).all fun k : Nat => decide ((θ (-1 - (k : Int))).size ≤ 30)
theorem smB_iff {θ : Int → Tm} : smB θ = true ↔ smallS θ := by
  unfold smB smallS
  rw [List.all_eq_true]
  exact ⟨fun h k hk => by simpa using h k (List.mem_range.2 hk), fun h k hk => by simpa using h k (List.mem_range.1 hk)⟩

abbrev Sln := List (List Int) × Bool × Int
abbrev Fb := List (Tm × Tm) → Sln
/-- What Solve answers; fb: where the fuel does not last. -/
def solX (fb : Fb) (l : List (Tm × Tm)) : Sln :=
  match solF 200 l .leaf with
  | some (some θ) => if smB θ = true then (meetS θ, true, 0) else ([], false, 2)
  | some none => ([], false, 0)
  | none => fb l

theorem meetS_congr {θ τ : Int → Tm} (h : ∀ v, v < 0 → θ v = τ v) : meetS θ = meetS τ := by
  unfold meetS
  refine List.map_congr_left fun k _ => ?_
  rw [h _ (by omega)]
theorem smallS_congr {θ τ : Int → Tm} (h : ∀ v, v < 0 → θ v = τ v) : smallS θ ↔ smallS τ := by
  unfold smallS
  exact ⟨fun g k hk => by rw [← h _ (by omega)]; exact g k hk, fun g k hk => by rw [h _ (by omega)]; exact g k hk⟩
theorem solveR_unique {l : List (Tm × Tm)} {r q : Sln} (h : SolveR l r.1 r.2.1 r.2.2) (k : SolveR l q.1 q.2.1 q.2.2) : r = q := by
  obtain ⟨r1, r2, r3⟩ := r
  obtain ⟨q1, q2, q3⟩ := q
  rcases h with ⟨rfl, rfl, rfl, hn⟩ | ⟨θ, hθ, -, h⟩
  · rcases k with ⟨rfl, rfl, rfl, -⟩ | ⟨τ, hτ, -, -⟩
    · rfl
    · exact absurd hτ.same (hn τ)
  · rcases k with ⟨-, -, -, hn⟩ | ⟨τ, hτ, -, k⟩
    · exact absurd hθ.same (hn θ)
    · have hu := hθ.unique hτ fun _ => Iff.rfl
      rcases h with ⟨g1, rfl, rfl, rfl⟩ | ⟨g1, rfl, rfl, rfl⟩
      · rcases k with ⟨-, rfl, rfl, rfl⟩ | ⟨g2, -⟩
        · show (meetS θ, _) = (meetS τ, _)
          rw [meetS_congr hu]
        · exact absurd ((smallS_congr hu).1 g1) g2
      · rcases k with ⟨g2, -⟩ | ⟨-, rfl, rfl, rfl⟩
        · exact absurd ((smallS_congr hu).2 g2) g1
        · rfl
/-- There is an answer: what meet does, in plain Lean. -/
theorem exists_met : ∀ (n m : Nat) (β : Bn) (θ : Int → Tm) (x y : Tm), St β θ → x.ok → y.ok → (∀ s ∈ x.flat, -8 ≤ s ∧ s < 6) → (∀ s ∈ y.flat, -8 ≤ s ∧ s < 6) → x.size ≤ 30 → y.size ≤ 30 →
    fr β < n → (x.inst θ).size < m → ∃ is β', Met β x y is β'
  | 0, _, _, _, _, _, _, _, _, _, _, _, _, h, _ => by omega
  | _, 0, _, _, _, _, _, _, _, _, _, _, _, _, h => by omega
  | n + 1, m + 1, β, θ, x, y, h, hx, hy, gx, gy, lx, ly, hn, hm => by
    obtain ⟨x', kx⟩ := exists_wk h hx
    obtain ⟨y', ky⟩ := exists_wk h hy
    obtain ⟨x1, x2, x3, x4, x5, x6⟩ := kx.facts h hx gx lx
    obtain ⟨y1, y2, y3, y4, y5, y6⟩ := ky.facts h hy gy ly
    suffices ∃ is β', Met β x' y' is β' by
      obtain ⟨is, β', k⟩ := this
      exact ⟨is, β', met_walk x6 y6 k⟩
    have hsx : -8 ≤ x'.sg := by obtain ⟨r, e⟩ := sg_flat x'; exact (x2 _ (by rw [e]; exact List.mem_cons_self ..)).1
    have hsy : -8 ≤ y'.sg := by obtain ⟨r, e⟩ := sg_flat y'; exact (y2 _ (by rw [e]; exact List.mem_cons_self ..)).1
    by_cases hv : x'.sg < 0
    · obtain ⟨e1, f1⟩ := x5 hv
      by_cases hw : y'.sg < 0
      · obtain ⟨e2, f2⟩ := y5 hw
        rcases (by omega : x'.sg = y'.sg ∨ x'.sg < y'.sg ∨ y'.sg < x'.sg) with e | hl | hl
        · rw [e1, e2, e]; exact ⟨true, β, met_same h _⟩
        · rw [e1, e2]; exact ⟨true, _, met_vars h hsx hl hw f1 f2⟩
        · rw [e1, e2]; exact ⟨true, _, met_symm (met_vars h hsy hl hv f2 f1)⟩
      · rw [e1]
        by_cases ho : x'.sg ∈ (y'.inst θ).flat
        · exact ⟨false, β, met_occurs h hv y1 (by omega) ho β⟩
        · exact ⟨true, _, met_bind h hsx hv f1 y1 y2 y3 ho fun w e _ => by rw [e] at hw; exact absurd (by assumption) hw⟩
    · by_cases hw : y'.sg < 0
      · obtain ⟨e2, f2⟩ := y5 hw
        rw [e2]
        by_cases ho : y'.sg ∈ (x'.inst θ).flat
        · exact ⟨false, β, met_symm (met_occurs h hw x1 (by omega) ho β)⟩
        · exact ⟨true, _, met_symm (met_bind h hsy hw f2 x1 x2 x3 ho fun w e _ => by rw [e] at hv; exact absurd (by assumption) hv)⟩
      · by_cases hvw : x'.sg = y'.sg
        · have hsz : (x'.inst θ).size < m + 1 := by rw [x4]; exact hm
          cases x' with
          | leaf s =>
            cases y' with
            | leaf s' => have : s = s' := hvw; subst this; exact ⟨true, β, met_same h _⟩
            | un s' a => have : s = s' := hvw; subst this; have a1 : ar s = 0 := x1; have a2 := y1.1; omega
            | bin s' a b => have : s = s' := hvw; subst this; have a1 : ar s = 0 := x1; have a2 := y1.1; omega
          | un s a =>
            cases y' with
            | leaf s' => have : s = s' := hvw; subst this; have a1 : ar s = 0 := y1; have a2 := x1.1; omega
            | bin s' c d => have : s = s' := hvw; subst this; have a1 := y1.1; have a2 := x1.1; omega
            | un s' c =>
              have : s = s' := hvw
              subst this
              have hz : (a.inst θ).size + 1 < m + 1 := hsz
              obtain ⟨is, β', k⟩ := exists_met (n + 1) m β θ a c h x1.2 y1.2 (fun q hq => x2 q (by simp [Tm.flat, hq])) (fun q hq => y2 q (by simp [Tm.flat, hq])) (by simp [Tm.size] at x3; omega) (by simp [Tm.size] at y3; omega) hn (by omega)
              exact ⟨is, β', met_un k⟩
          | bin s a b =>
            cases y' with
            | leaf s' => have : s = s' := hvw; subst this; have a1 : ar s = 0 := y1; have a2 := x1.1; omega
            | un s' c => have : s = s' := hvw; subst this; have a1 := y1.1; have a2 := x1.1; omega
            | bin s' c d =>
              have : s = s' := hvw
              subst this
              have hz : (a.inst θ).size + (b.inst θ).size + 1 < m + 1 := hsz
              simp [Tm.size] at x3 y3
              obtain ⟨is, β', k⟩ := exists_met (n + 1) m β θ a c h x1.2.1 y1.2.1 (fun q hq => x2 q (by simp [Tm.flat, hq])) (fun q hq => y2 q (by simp [Tm.flat, hq])) (by omega) (by omega) hn (by omega)
              cases is with
              | false => exact ⟨false, β', met_bin_no k⟩
              | true =>
                have k0 := k
                unfold Met at k
                rw [if_pos rfl] at k
                obtain ⟨k1, ⟨θ', k2⟩, -⟩ := k
                rcases k1 with rfl | k1
                · obtain ⟨is, β'', q⟩ := exists_met (n + 1) m β' θ b d h x1.2.2 y1.2.2 (fun q hq => x2 q (by simp [Tm.flat, hq])) (fun q hq => y2 q (by simp [Tm.flat, hq])) (by omega) (by omega) hn (by omega)
                  exact ⟨is, β'', met_bin k0 q⟩
                · obtain ⟨is, β'', q⟩ := exists_met n ((b.inst θ').size + 1) β' θ' b d k2 x1.2.2 y1.2.2 (fun q hq => x2 q (by simp [Tm.flat, hq])) (fun q hq => y2 q (by simp [Tm.flat, hq])) (by omega) (by omega) (by omega) (by omega)
                  exact ⟨is, β'', met_bin k0 q⟩
        · exact ⟨false, β, met_clash (by omega) (by omega) hvw⟩
termination_by n m => (n, m)

/-- Right pairs, as trees. -/
def RtP (p : Tm × Tm) : Prop := p.1.ok ∧ p.2.ok ∧ (∀ s ∈ p.1.flat, -8 ≤ s ∧ s < 6) ∧ (∀ s ∈ p.2.flat, -8 ≤ s ∧ s < 6) ∧ p.1.size ≤ 30 ∧ p.2.size ≤ 30
theorem rtP_of {a b : List Int} (ha : chk a = 0) (hb : chk b = 0) : RtP (tmOf a, tmOf b) := by
  obtain ⟨h1, h2⟩ := tm_chk ha
  obtain ⟨k1, k2⟩ := tm_chk hb
  exact ⟨h1, k1, by rw [h2]; exact signs_of_chk ha, by rw [k2]; exact signs_of_chk hb, by rw [← size_flat, h2]; exact len_of_chk ha, by rw [← size_flat, k2]; exact len_of_chk hb⟩

/-- Bindings behind some pairs. -/
def MetL (l : List (Tm × Tm)) (is : Bool) (β : Bn) : Prop :=
  if is = true then (∃ θ, St β θ) ∧ ∀ τ, Sat τ β ↔ ∀ p ∈ l, p.1.inst τ = p.2.inst τ else ∀ τ : Int → Tm, ¬ ∀ p ∈ l, p.1.inst τ = p.2.inst τ
theorem metL_nil : MetL [] true (fun _ => none) := by
  unfold MetL; rw [if_pos rfl]
  exact ⟨⟨_, St.start⟩, fun τ => ⟨fun _ p hp => by simp at hp, fun _ v t e => by cases e⟩⟩
theorem metL_snoc {l : List (Tm × Tm)} {β β' : Bn} {x y : Tm} {is : Bool} (h : MetL l true β) (k : Met β x y is β') : MetL (l ++ [(x, y)]) is β' := by
  unfold MetL at h ⊢
  unfold Met at k
  rw [if_pos rfl] at h
  have hs : ∀ τ : Int → Tm, (∀ p ∈ l ++ [(x, y)], p.1.inst τ = p.2.inst τ) ↔ (∀ p ∈ l, p.1.inst τ = p.2.inst τ) ∧ x.inst τ = y.inst τ := by
    intro τ
    constructor
    · intro q
      exact ⟨fun p hp => q p (by simp [hp]), q (x, y) (by simp)⟩
    · rintro ⟨q1, q2⟩ p hp
      rcases List.mem_append.1 hp with hp | hp
      · exact q1 p hp
      · simp at hp; subst hp; exact q2
  cases is with
  | true =>
    rw [if_pos rfl] at k ⊢
    exact ⟨k.2.1, fun τ => by rw [k.2.2, h.2, hs]⟩
  | false =>
    rw [if_neg (by decide)] at k ⊢
    intro τ q
    rw [hs] at q
    exact k τ ((h.2 τ).2 q.1) q.2
theorem metL_no {l m : List (Tm × Tm)} {β : Bn} (h : MetL l false β) : MetL (l ++ m) false β := by
  unfold MetL at h ⊢
  rw [if_neg (by decide)] at h ⊢
  exact fun τ k => h τ fun p hp => k p (by simp [hp])
theorem solveR_no {l : List (Tm × Tm)} {β : Bn} (h : MetL l false β) : SolveR l [] false 0 := by
  unfold MetL at h
  rw [if_neg (by decide)] at h
  exact .inl ⟨rfl, rfl, rfl, h⟩
theorem solveR_yes {l : List (Tm × Tm)} {β : Bn} {θ : Int → Tm} (h : MetL l true β) (hs : St β θ) : Mgu l θ ∧ SgS θ := by
  unfold MetL at h
  rw [if_pos rfl] at h
  exact ⟨hs.mgu h.2, hs.signs⟩

theorem exists_metL : ∀ (l m : List (Tm × Tm)) (β : Bn), (∀ p ∈ l, RtP p) → MetL m true β → ∃ is β', MetL (m ++ l) is β'
  | [], m, β, _, h => ⟨true, β, by rw [List.append_nil]; exact h⟩
  | (x, y) :: l, m, β, hl, h => by
    have h0 := h
    unfold MetL at h
    rw [if_pos rfl] at h
    obtain ⟨θ, hθ⟩ := h.1
    obtain ⟨a1, a2, a3, a4, a5, a6⟩ := hl (x, y) (List.mem_cons_self ..)
    obtain ⟨is, β', k⟩ := exists_met _ _ β θ x y hθ a1 a2 a3 a4 a5 a6 (Nat.lt_succ_self _) (Nat.lt_succ_self _)
    have k' := metL_snoc h0 k
    cases is with
    | false => exact ⟨false, β', by have := metL_no (m := l) k'; simpa using this⟩
    | true =>
      obtain ⟨is, β'', q⟩ := exists_metL l (m ++ [(x, y)]) β' (fun p hp => hl p (List.mem_cons_of_mem _ hp)) k'
      exact ⟨is, β'', by simpa using q⟩

theorem exists_sln {l : List (Tm × Tm)} (hl : ∀ p ∈ l, RtP p) : ∃ r : Sln, SolveR l r.1 r.2.1 r.2.2 := by
  obtain ⟨is, β, h⟩ := exists_metL l [] _ hl metL_nil
  rw [List.nil_append] at h
  cases is with
  | false => exact ⟨([], false, 0), solveR_no h⟩
  | true =>
    have h0 := h
    unfold MetL at h
    rw [if_pos rfl] at h
    obtain ⟨θ, hθ⟩ := h.1
    obtain ⟨k1, k2⟩ := solveR_yes h0 hθ
    by_cases hs : smallS θ
    · exact ⟨(meetS θ, true, 0), .inr ⟨θ, k1, k2, .inl ⟨hs, rfl, rfl, rfl⟩⟩⟩
    · exact ⟨([], false, 2), .inr ⟨θ, k1, k2, .inr ⟨hs, rfl, rfl, rfl⟩⟩⟩

def FbOk (fb : Fb) : Prop := ∀ l, (∀ p ∈ l, RtP p) → SolveR l (fb l).1 (fb l).2.1 (fb l).2.2
theorem exists_fb : ∃ fb : Fb, FbOk fb := by
  have h : ∀ l : List (Tm × Tm), ∃ r : Sln, (∀ p ∈ l, RtP p) → SolveR l r.1 r.2.1 r.2.2 := fun l => by
    by_cases hl : ∀ p ∈ l, RtP p
    · obtain ⟨r, hr⟩ := exists_sln hl
      exact ⟨r, fun _ => hr⟩
    · exact ⟨([], false, 0), fun k => absurd k hl⟩
  exact ⟨fun l => (h l).choose, fun l => (h l).choose_spec⟩

theorem solX_R {fb : Fb} (hfb : FbOk fb) {l : List (Tm × Tm)} (hl : ∀ p ∈ l, RtP p) : SolveR l (solX fb l).1 (solX fb l).2.1 (solX fb l).2.2 := by
  have h1 := solF_right 200 l [] .leaf (fun p hp => ⟨(hl p hp).1, (hl p hp).2.1⟩) mgu_nil
  rw [List.append_nil] at h1
  unfold solX
  match hs : solF 200 l .leaf, h1 with
  | none, _ => exact hfb l hl
  | some none, h1 => exact .inl ⟨rfl, rfl, rfl, h1⟩
  | some (some τ), hτ =>
    dsimp only
    obtain ⟨r, h⟩ := exists_sln hl
    rcases h with ⟨-, -, -, hn⟩ | ⟨θ, hθ, hg, -⟩
    · exact absurd hτ.same (hn τ)
    · have hu := hθ.unique hτ fun _ => Iff.rfl
      have hg' : SgS τ := fun v h8 hv => by rw [← hu v hv]; exact hg v h8 hv
      by_cases hs : smB τ = true
      · rw [if_pos hs]; exact .inr ⟨τ, hτ, hg', .inl ⟨smB_iff.1 hs, rfl, rfl, rfl⟩⟩
      · rw [if_neg hs]; exact .inr ⟨τ, hτ, hg', .inr ⟨fun e => hs (smB_iff.2 e), rfl, rfl, rfl⟩⟩
theorem solX_eq {fb : Fb} (hfb : FbOk fb) {l : List (Tm × Tm)} (hl : ∀ p ∈ l, RtP p) {s : List (List Int)} {is : Bool} {e : Int} (h : SolveR l s is e) : s = (solX fb l).1 ∧ is = (solX fb l).2.1 ∧ e = (solX fb l).2.2 := by
  have := solveR_unique (r := (s, is, e)) h (solX_R hfb hl)
  rw [← this]
  exact ⟨rfl, rfl, rfl⟩

end Go.Proofs.Ytepddehodmljeaa
