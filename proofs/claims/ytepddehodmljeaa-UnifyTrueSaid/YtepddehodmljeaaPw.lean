/- Plain: meeting, step by step. No program in sight. -/
import Derived.Test.YtepddehodmljeaaPu
namespace Go.Proofs.Ytepddehodmljeaa

/-- Bindings that are right, and what all comes to by them. -/
structure St (β : Bn) (θ : Int → Tm) : Prop where
  rk : ∃ r, Rnk r β
  key : ∀ v t, β v = some t → v < 0 ∧ t.ok
  low : ∀ v t, β v = some t → -8 ≤ v ∧ (∀ s ∈ t.flat, -8 ≤ s ∧ s < 6) ∧ t.size ≤ 30
  res : Res β θ
  ok : OkS θ
  up : ∀ v w, β v = some (.leaf w) → w < 0 → v < w

theorem St.start : St (fun _ => none) .leaf where
  rk := ⟨fun _ => 0, fun _ _ h => by cases h⟩
  key := fun _ _ h => by cases h
  low := fun _ _ h => by cases h
  res := ⟨fun _ _ h => (by cases h), fun _ _ => rfl⟩
  ok := fun v hv => by show ar v = 0; unfold ar; rw [if_pos (by omega)]
  up := fun _ _ h => by cases h

def isN (o : Option Tm) : Nat := match o with | none => 1 | some _ => 0
/-- How many are free. -/
def fr (β : Bn) : Nat := isN (β (-1)) + isN (β (-2)) + isN (β (-3)) + isN (β (-4)) + isN (β (-5)) + isN (β (-6)) + isN (β (-7)) + isN (β (-8))
theorem fr_bnd {β : Bn} {v : Int} {t : Tm} (h1 : -8 ≤ v) (h2 : v < 0) (hf : β v = none) : fr (bnd β v t) < fr β := by
  have h : ∀ u, isN (bnd β v t u) = if u = v then 0 else isN (β u) := by
    intro u
    unfold bnd
    split <;> rfl
  have hv : isN (β v) = 1 := by rw [hf]; rfl
  unfold fr
  simp only [h]
  rcases (by omega : v = -1 ∨ v = -2 ∨ v = -3 ∨ v = -4 ∨ v = -5 ∨ v = -6 ∨ v = -7 ∨ v = -8) with rfl | rfl | rfl | rfl | rfl | rfl | rfl | rfl <;> simp [hv] <;> omega

theorem St.bind {β : Bn} {θ : Int → Tm} (h : St β θ) {v : Int} {t : Tm} (h8 : -8 ≤ v) (hv : v < 0) (hf : β v = none) (ht : t.ok) (hs : ∀ s ∈ t.flat, -8 ≤ s ∧ s < 6) (hl : t.size ≤ 30) (hn : v ∉ (t.inst θ).flat)
    (hu : ∀ w, t = .leaf w → w < 0 → v < w) : ∃ θ', St (bnd β v t) θ' := by
  obtain ⟨r, hr⟩ := h.rk
  obtain ⟨r', hr'⟩ := bnd_rnk hr h.key h.res hv hf ht hn
  have hk : ∀ u s, bnd β v t u = some s → (u = v ∧ s = t) ∨ β u = some s := by
    intro u s hus
    unfold bnd at hus
    split at hus
    · cases hus; exact .inl ⟨by assumption, rfl⟩
    · exact .inr hus
  have hkey : ∀ u s, bnd β v t u = some s → u < 0 ∧ s.ok := fun u s hus => by
    rcases hk u s hus with ⟨rfl, rfl⟩ | h1
    · exact ⟨hv, ht⟩
    · exact h.key u s h1
  obtain ⟨θ', h1, h2⟩ := exists_res hr' hkey
  refine ⟨θ', ⟨r', hr'⟩, hkey, fun u s hus => ?_, h1, h2, fun u w hus h0 => ?_⟩
  · rcases hk u s hus with ⟨rfl, rfl⟩ | h3
    · exact ⟨h8, hs, hl⟩
    · exact h.low u s h3
  · rcases hk u _ hus with ⟨rfl, h3⟩ | h3
    · exact hu w h3.symm h0
    · exact h.up u w h3 h0

theorem St.great {β : Bn} {θ : Int → Tm} (h : St β θ) : ∀ v w, v < 0 → w < 0 → θ v = .leaf w → v ≤ w := by
  obtain ⟨r, hr⟩ := h.rk
  have main : ∀ n v w, v < 0 → w < 0 → r v < n → θ v = .leaf w → v ≤ w := by
    intro n
    induction n with
    | zero => intro v w _ _ h; omega
    | succ n ih =>
      intro v w hv hw hn e
      cases hb : β v with
      | none =>
        rw [h.res.free v hb] at e
        cases e; omega
      | some t =>
        rw [h.res.sat v t hb] at e
        cases t with
        | un s a => cases e
        | bin s a b => cases e
        | leaf u =>
          by_cases hu : u < 0
          · have e1 : (Tm.leaf u).inst θ = θ u := if_pos hu
            rw [e1] at e
            have h1 := h.up v u hb hu
            have h2 := hr v _ hb u (by simp [Tm.flat]) hu
            have := ih u w hu hw (by omega) e
            omega
          · have e1 : (Tm.leaf u).inst θ = .leaf u := if_neg hu
            rw [e1] at e
            cases e; omega
  exact fun v w hv hw e => main (r v + 1) v w hv hw (by omega) e

/-- What a term is, as far as its first sign goes. -/
inductive Wk (β : Bn) : Tm → Tm → Prop
  | stay {x : Tm} : (x.sg < 0 → β x.sg = none) → Wk β x x
  | go {v : Int} {t y : Tm} : v < 0 → β v = some t → Wk β t y → Wk β (.leaf v) y

theorem exists_wk {β : Bn} {θ : Int → Tm} (h : St β θ) {x : Tm} (hx : x.ok) : ∃ y, Wk β x y := by
  obtain ⟨r, hr⟩ := h.rk
  have main : ∀ n (x : Tm), (∀ u ∈ x.flat, u < 0 → r u < n) → x.ok → ∃ y, Wk β x y := by
    intro n
    induction n with
    | zero =>
      intro x hn _
      refine ⟨x, .stay fun h0 => ?_⟩
      obtain ⟨r', e⟩ := sg_flat x
      have := hn x.sg (by rw [e]; exact List.mem_cons_self ..) h0
      omega
    | succ n ih =>
      intro x hn hx
      by_cases h0 : x.sg < 0
      · cases hb : β x.sg with
        | none => exact ⟨x, .stay fun _ => hb⟩
        | some t =>
          have e : x = .leaf x.sg := by
            cases x with
            | leaf s => rfl
            | un s a => have h1 : s < 0 := h0; have h2 := hx.1; rw [ar, if_pos (by omega)] at h2; cases h2
            | bin s a b => have h1 : s < 0 := h0; have h2 := hx.1; rw [ar, if_pos (by omega)] at h2; cases h2
          obtain ⟨y, hy⟩ := ih t (fun u hu hu0 => by
            have h1 := hr _ t hb u hu hu0
            have h2 := hn x.sg (by obtain ⟨r', e⟩ := sg_flat x; rw [e]; exact List.mem_cons_self ..) h0
            omega) (h.key _ t hb).2
          exact ⟨y, by rw [e]; exact .go h0 hb hy⟩
      · exact ⟨x, .stay fun h => absurd h h0⟩
  exact main ((x.flat.map r).sum + 1) x (fun u hu _ => by have := le_sum (f := r) x.flat u hu; omega) hx

theorem Wk.facts {β : Bn} {θ : Int → Tm} (h : St β θ) {x y : Tm} (k : Wk β x y) : x.ok → (∀ s ∈ x.flat, -8 ≤ s ∧ s < 6) → x.size ≤ 30 →
    y.ok ∧ (∀ s ∈ y.flat, -8 ≤ s ∧ s < 6) ∧ y.size ≤ 30 ∧ y.inst θ = x.inst θ ∧ (y.sg < 0 → y = .leaf y.sg ∧ β y.sg = none) ∧ (∀ τ, Sat τ β → y.inst τ = x.inst τ) := by
  induction k with
  | @stay x hn =>
    intro h1 h2 h3
    refine ⟨h1, h2, h3, rfl, fun h0 => ⟨?_, hn h0⟩, fun _ _ => rfl⟩
    cases x with
    | leaf s => rfl
    | un s a => have h4 : s < 0 := h0; have h5 := h1.1; rw [ar, if_pos (by omega)] at h5; cases h5
    | bin s a b => have h4 : s < 0 := h0; have h5 := h1.1; rw [ar, if_pos (by omega)] at h5; cases h5
  | @go v t y hv hb _ ih =>
    intro _ _ _
    obtain ⟨h1, h2, h3, h4, h5, h6⟩ := ih (h.key v t hb).2 (h.low v t hb).2.1 (h.low v t hb).2.2
    refine ⟨h1, h2, h3, ?_, h5, fun τ hτ => ?_⟩
    · rw [h4]
      have e : (Tm.leaf v).inst θ = θ v := if_pos hv
      rw [e, h.res.sat v t hb]
    · rw [h6 τ hτ]
      have e : (Tm.leaf v).inst τ = τ v := if_pos hv
      rw [e, hτ v t hb]

/-- What meet answers: bindings behind it; or nothing makes both the same. -/
def Met (β : Bn) (x y : Tm) (is : Bool) (β' : Bn) : Prop :=
  if is = true then (β' = β ∨ fr β' < fr β) ∧ (∃ θ', St β' θ') ∧ ∀ τ, Sat τ β' ↔ Sat τ β ∧ x.inst τ = y.inst τ
  else ∀ τ, Sat τ β → x.inst τ ≠ y.inst τ

theorem met_same {β : Bn} {θ : Int → Tm} (h : St β θ) (x : Tm) : Met β x x true β := by
  unfold Met; rw [if_pos rfl]
  exact ⟨.inl rfl, ⟨θ, h⟩, fun τ => ⟨fun h => ⟨h, rfl⟩, fun h => h.1⟩⟩
theorem met_walk {β β' : Bn} {x y x' y' : Tm} {is : Bool} (hx : ∀ τ, Sat τ β → x'.inst τ = x.inst τ) (hy : ∀ τ, Sat τ β → y'.inst τ = y.inst τ) (h : Met β x' y' is β') : Met β x y is β' := by
  unfold Met at h ⊢
  cases is with
  | true =>
    rw [if_pos rfl] at h ⊢
    refine ⟨h.1, h.2.1, fun τ => (h.2.2 τ).trans ⟨fun k => ⟨k.1, ?_⟩, fun k => ⟨k.1, ?_⟩⟩⟩
    · rw [← hx τ k.1, ← hy τ k.1]; exact k.2
    · rw [hx τ k.1, hy τ k.1]; exact k.2
  | false =>
    rw [if_neg (by decide)] at h ⊢
    intro τ hτ e
    exact h τ hτ (by rw [hx τ hτ, hy τ hτ]; exact e)
theorem met_symm {β β' : Bn} {x y : Tm} {is : Bool} (h : Met β x y is β') : Met β y x is β' := by
  unfold Met at h ⊢
  cases is with
  | true =>
    rw [if_pos rfl] at h ⊢
    exact ⟨h.1, h.2.1, fun τ => (h.2.2 τ).trans ⟨fun k => ⟨k.1, k.2.symm⟩, fun k => ⟨k.1, k.2.symm⟩⟩⟩
  | false =>
    rw [if_neg (by decide)] at h ⊢
    exact fun τ hτ e => h τ hτ e.symm
/-- A variable and a term in which it does not stand. -/
theorem met_bind {β : Bn} {θ : Int → Tm} (h : St β θ) {v : Int} {t : Tm} (h8 : -8 ≤ v) (hv : v < 0) (hf : β v = none) (ht : t.ok) (hs : ∀ s ∈ t.flat, -8 ≤ s ∧ s < 6) (hl : t.size ≤ 30) (hn : v ∉ (t.inst θ).flat)
    (hu : ∀ w, t = .leaf w → w < 0 → v < w) : Met β (.leaf v) t true (bnd β v t) := by
  unfold Met; rw [if_pos rfl]
  refine ⟨.inr (fr_bnd h8 hv hf), h.bind h8 hv hf ht hs hl hn hu, fun τ => ?_⟩
  have e : (Tm.leaf v).inst τ = τ v := if_pos hv
  rw [e]
  exact bnd_sat hf
/-- Two variables: the lesser one becomes the greater one. -/
theorem met_vars {β : Bn} {θ : Int → Tm} (h : St β θ) {v w : Int} (h1 : -8 ≤ v) (h2 : v < w) (h3 : w < 0) (hv : β v = none) (hw : β w = none) : Met β (.leaf v) (.leaf w) true (bnd β v (.leaf w)) := by
  refine met_bind h h1 (by omega) hv (by show ar w = 0; unfold ar; rw [if_pos (by omega)]) (fun s hs => by simp [Tm.flat] at hs; omega) (by simp [Tm.size]) ?_ fun u e _ => by cases e; omega
  have e : (Tm.leaf w).inst θ = θ w := if_pos h3
  rw [e, h.res.free w hw]
  simp [Tm.flat]; omega
theorem met_occurs {β : Bn} {θ : Int → Tm} (h : St β θ) {v : Int} {t : Tm} (hv : v < 0) (ht : t.ok) (h0 : 0 ≤ t.sg) (hn : v ∈ (t.inst θ).flat) (β' : Bn) : Met β (.leaf v) t false β' := by
  unfold Met; rw [if_neg (by decide)]
  intro τ hτ
  obtain ⟨r, hr⟩ := h.rk
  have e : (Tm.leaf v).inst τ = τ v := if_pos hv
  rw [e]
  exact occurs_no hr h.res h.ok hv ht h0 hn hτ
theorem met_clash {β β' : Bn} {x y : Tm} (hx : 0 ≤ x.sg) (hy : 0 ≤ y.sg) (h : x.sg ≠ y.sg) : Met β x y false β' := by
  unfold Met; rw [if_neg (by decide)]
  intro τ _ e
  have := congrArg Tm.sg e
  rw [(parts_inst τ hx).2, (parts_inst τ hy).2] at this
  exact h this
theorem met_leaf {β : Bn} {θ : Int → Tm} (h : St β θ) {s : Int} : Met β (.leaf s) (.leaf s) true β := met_same h _
theorem met_un {β β' : Bn} {s : Int} {a a' : Tm} {is : Bool} (h : Met β a a' is β') : Met β (.un s a) (.un s a') is β' := by
  have e : ∀ τ, (Tm.un s a).inst τ = (Tm.un s a').inst τ ↔ a.inst τ = a'.inst τ := fun τ => by
    show Tm.un s (a.inst τ) = .un s (a'.inst τ) ↔ _
    simp
  unfold Met at h ⊢
  cases is with
  | true => rw [if_pos rfl] at h ⊢; exact ⟨h.1, h.2.1, fun τ => by rw [e]; exact h.2.2 τ⟩
  | false => rw [if_neg (by decide)] at h ⊢; exact fun τ hτ k => h τ hτ ((e τ).1 k)
theorem met_bin_no {β β' β'' : Bn} {s : Int} {a a' b b' : Tm} (h : Met β a a' false β') : Met β (.bin s a b) (.bin s a' b') false β'' := by
  unfold Met at h ⊢
  rw [if_neg (by decide)] at h ⊢
  intro τ hτ k
  have k' : Tm.bin s (a.inst τ) (b.inst τ) = .bin s (a'.inst τ) (b'.inst τ) := k
  simp at k'
  exact h τ hτ k'.1
theorem met_bin {β β' β'' : Bn} {s : Int} {a a' b b' : Tm} {is : Bool} (h : Met β a a' true β') (k : Met β' b b' is β'') : Met β (.bin s a b) (.bin s a' b') is β'' := by
  have e : ∀ τ, (Tm.bin s a b).inst τ = (Tm.bin s a' b').inst τ ↔ a.inst τ = a'.inst τ ∧ b.inst τ = b'.inst τ := fun τ => by
    show Tm.bin s (a.inst τ) (b.inst τ) = .bin s (a'.inst τ) (b'.inst τ) ↔ _
    simp
  unfold Met at h k ⊢
  rw [if_pos rfl] at h
  cases is with
  | true =>
    rw [if_pos rfl] at k ⊢
    refine ⟨?_, k.2.1, fun τ => ?_⟩
    · rcases k.1 with rfl | k1
      · exact h.1
      · rcases h.1 with rfl | h1
        · exact .inr k1
        · exact .inr (by omega)
    · rw [k.2.2, h.2.2, e, and_assoc]
  | false =>
    rw [if_neg (by decide)] at k ⊢
    intro τ hτ q
    have q' := (e τ).1 q
    exact k τ ((h.2.2 τ).2 ⟨hτ, q'.1⟩) q'.2

theorem St.mgu {β : Bn} {θ : Int → Tm} (h : St β θ) {l : List (Tm × Tm)} (hl : ∀ τ, Sat τ β ↔ ∀ p ∈ l, p.1.inst τ = p.2.inst τ) : Mgu l θ := by
  obtain ⟨r, hr⟩ := h.rk
  exact ⟨h.ok, (hl θ).1 h.res.sat, fun θ' h' v hv => res_most hr h.res ((hl θ').2 h') v hv, h.great⟩

end Go.Proofs.Ytepddehodmljeaa
