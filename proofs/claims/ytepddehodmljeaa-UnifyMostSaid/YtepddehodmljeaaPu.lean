/- Plain: meeting: bindings, what they come to, and that it is the most general. No program in sight. -/
import Derived.Test.YtepddehodmljeaaPj
namespace Go.Proofs.Ytepddehodmljeaa

/-- To what variables are bound. -/
abbrev Bn := Int → Option Tm
def Sat (θ : Int → Tm) (β : Bn) : Prop := ∀ v t, β v = some t → θ v = t.inst θ
/-- Nothing stands in itself: r tells how deep. -/
def Rnk (r : Int → Nat) (β : Bn) : Prop := ∀ v t, β v = some t → ∀ u ∈ t.flat, u < 0 → r u < r v

def Tm.vr (x : Tm) (v : Int) : Prop := v ∈ x.flat ∧ v < 0

theorem mem_inst {θ : Int → Tm} {w : Int} : ∀ {x : Tm}, w < 0 → x.ok → (w ∈ (x.inst θ).flat ↔ ∃ u, u < 0 ∧ u ∈ x.flat ∧ w ∈ (θ u).flat)
  | .leaf s, hw, _ => by
    by_cases hs : s < 0
    · have e : (Tm.leaf s).inst θ = θ s := if_pos hs
      rw [e]
      constructor
      · intro h; exact ⟨s, hs, by simp [Tm.flat], h⟩
      · rintro ⟨u, _, hu, h⟩; simp [Tm.flat] at hu; subst hu; exact h
    · have e : (Tm.leaf s).inst θ = .leaf s := if_neg hs
      rw [e]
      constructor
      · intro h; simp [Tm.flat] at h; omega
      · rintro ⟨u, hu0, hu, _⟩; simp [Tm.flat] at hu; omega
  | .un s a, hw, ho => by
    have hs := ar_pos (s := s) (by rw [ho.1]; decide)
    have ih := mem_inst (θ := θ) (x := a) hw ho.2
    show w ∈ s :: (a.inst θ).flat ↔ _
    rw [List.mem_cons, ih]
    constructor
    · rintro (h | ⟨u, h1, h2, h3⟩)
      · omega
      · exact ⟨u, h1, by simp [Tm.flat, h2], h3⟩
    · rintro ⟨u, h1, h2, h3⟩
      simp [Tm.flat] at h2
      rcases h2 with h2 | h2
      · omega
      · exact .inr ⟨u, h1, h2, h3⟩
  | .bin s a b, hw, ho => by
    have hs := ar_pos (s := s) (by rw [ho.1]; decide)
    have iha := mem_inst (θ := θ) (x := a) hw ho.2.1
    have ihb := mem_inst (θ := θ) (x := b) hw ho.2.2
    show w ∈ s :: ((a.inst θ).flat ++ (b.inst θ).flat) ↔ _
    rw [List.mem_cons, List.mem_append, iha, ihb]
    constructor
    · rintro (h | ⟨u, h1, h2, h3⟩ | ⟨u, h1, h2, h3⟩)
      · omega
      · exact ⟨u, h1, by simp [Tm.flat, h2], h3⟩
      · exact ⟨u, h1, by simp [Tm.flat, h2], h3⟩
    · rintro ⟨u, h1, h2, h3⟩
      simp [Tm.flat] at h2
      rcases h2 with h2 | h2 | h2
      · omega
      · exact .inr (.inl ⟨u, h1, h2, h3⟩)
      · exact .inr (.inr ⟨u, h1, h2, h3⟩)

/-- What bindings come to, n steps deep. -/
def seqB (β : Bn) : Nat → Int → Tm
  | 0, v => .leaf v
  | n + 1, v => match β v with
    | some t => t.inst (seqB β n)
    | none => .leaf v
theorem seqB_stable {β : Bn} {r : Int → Nat} (hr : Rnk r β) : ∀ (n : Nat) (v : Int), r v < n → seqB β n v = seqB β (r v + 1) v := by
  intro n
  induction n using Nat.strongRecOn with
  | ind n ih =>
    intro v hv
    obtain ⟨m, rfl⟩ : ∃ m, n = m + 1 := ⟨n - 1, by omega⟩
    show (match β v with | some t => t.inst (seqB β m) | none => .leaf v) = (match β v with | some t => t.inst (seqB β (r v)) | none => .leaf v)
    cases hb : β v with
    | none => rfl
    | some t =>
      refine inst_congr fun u hu h0 => ?_
      have h1 := hr v t hb u hu h0
      rw [ih m (by omega) u (by omega)]
      by_cases h2 : r v = m + 1
      · omega
      · rw [ih (r v) (by omega) u h1]

/-- What all variables are, in the end: free ones themselves. -/
structure Res (β : Bn) (θ : Int → Tm) : Prop where
  sat : Sat θ β
  free : ∀ v, β v = none → θ v = .leaf v

theorem exists_res {β : Bn} {r : Int → Nat} (hr : Rnk r β) (hk : ∀ v t, β v = some t → v < 0 ∧ t.ok) : ∃ θ, Res β θ ∧ OkS θ := by
  refine ⟨fun v => seqB β (r v + 1) v, ⟨fun v t h => ?_, fun v h => ?_⟩, ?_⟩
  · show (match β v with | some t => t.inst (seqB β (r v)) | none => .leaf v) = _
    rw [h]
    exact inst_congr fun u hu h0 => seqB_stable hr (r v) u (hr v t h u hu h0)
  · show (match β v with | some t => t.inst (seqB β (r v)) | none => .leaf v) = _
    rw [h]
  · have : ∀ n v, v < 0 → (seqB β n v).ok := by
      intro n
      induction n with
      | zero => intro v hv; show ar v = 0; unfold ar; rw [if_pos (by omega)]
      | succ n ih =>
        intro v hv
        show (match β v with | some t => t.inst (seqB β n) | none => .leaf v).ok
        cases hb : β v with
        | none => show ar v = 0; unfold ar; rw [if_pos (by omega)]
        | some t => exact inst_ok ih (hk v t hb).2
    exact fun v hv => this _ v hv

/-- Whoever satisfies bindings is made of what they come to. -/
theorem res_most {β : Bn} {r : Int → Nat} (hr : Rnk r β) {θ : Int → Tm} (hθ : Res β θ) {θ' : Int → Tm} (h : Sat θ' β) : ∀ v, v < 0 → (θ v).inst θ' = θ' v := by
  have main : ∀ n v, v < 0 → r v < n → (θ v).inst θ' = θ' v := by
    intro n
    induction n with
    | zero => intro v _ h; omega
    | succ n ih =>
      intro v hv hn
      cases hb : β v with
      | none =>
        rw [hθ.free v hb]
        show (if v < 0 then θ' v else _) = _
        rw [if_pos hv]
      | some t =>
        rw [hθ.sat v t hb, inst_inst, h v t hb]
        exact inst_congr fun u hu h0 => ih u h0 (by have := hr v t hb u hu h0; omega)
  exact fun v hv => main (r v + 1) v hv (by omega)
theorem res_inst {β : Bn} {r : Int → Nat} (hr : Rnk r β) {θ : Int → Tm} (hθ : Res β θ) {θ' : Int → Tm} (h : Sat θ' β) (x : Tm) : (x.inst θ).inst θ' = x.inst θ' := by
  rw [inst_inst]; exact inst_congr fun u _ h0 => res_most hr hθ h u h0

/-- One more variable bound. -/
def bnd (β : Bn) (v : Int) (t : Tm) : Bn := fun u => if u = v then some t else β u
theorem bnd_sat {β : Bn} {v : Int} {t : Tm} {θ' : Int → Tm} (hf : β v = none) : Sat θ' (bnd β v t) ↔ Sat θ' β ∧ θ' v = t.inst θ' := by
  constructor
  · intro h
    refine ⟨fun u s hu => h u s ?_, h v t (by simp [bnd])⟩
    have : u ≠ v := by rintro rfl; rw [hf] at hu; cases hu
    simp [bnd, this, hu]
  · rintro ⟨h1, h2⟩ u s hu
    unfold bnd at hu
    split at hu
    · rename_i e; subst e; cases hu; exact h2
    · exact h1 u s hu
theorem le_sum {f : Int → Nat} : ∀ (l : List Int) (u : Int), u ∈ l → f u ≤ (l.map f).sum
  | [], _, h => by cases h
  | a :: l, u, h => by
    rw [List.map_cons, List.sum_cons]
    rcases List.mem_cons.1 h with rfl | h
    · omega
    · have := le_sum (f := f) l u h; omega
theorem bnd_rnk {β : Bn} {r : Int → Nat} (hr : Rnk r β) (hk : ∀ v t, β v = some t → v < 0 ∧ t.ok) {θ : Int → Tm} (hθ : Res β θ) {v : Int} {t : Tm} (hv : v < 0) (hf : β v = none) (ht : t.ok) (hn : v ∉ (t.inst θ).flat) : ∃ r', Rnk r' (bnd β v t) := by
  classical
  refine ⟨fun u => if v ∈ (θ u).flat then r u + ((t.flat.map r).sum + 1) else r u, fun u s hu w hw h0 => ?_⟩
  simp only
  unfold bnd at hu
  split at hu
  · rename_i e
    subst e
    cases hu
    have h1 : u ∈ (θ u).flat := by rw [hθ.free u hf]; simp [Tm.flat]
    have h2 : u ∉ (θ w).flat := fun h => hn ((mem_inst hv ht).2 ⟨w, h0, hw, h⟩)
    rw [if_neg h2, if_pos h1]
    have := le_sum (f := r) t.flat w hw
    omega
  · have h3 := hr u s hu w hw h0
    have hs := (hk u s hu).2
    by_cases h1 : v ∈ (θ w).flat
    · have h2 : v ∈ (θ u).flat := by rw [hθ.sat u s hu]; exact (mem_inst hv hs).2 ⟨w, h0, hw, h1⟩
      rw [if_pos h1, if_pos h2]; omega
    · rw [if_neg h1]
      split <;> omega

theorem inst_size_var {θ : Int → Tm} {v : Int} (hv : v < 0) : ∀ {x : Tm}, x.ok → v ∈ x.flat → (θ v).size ≤ (x.inst θ).size ∧ (0 ≤ x.sg → (θ v).size < (x.inst θ).size)
  | .leaf s, _, h => by
    simp [Tm.flat] at h
    subst h
    have e : (Tm.leaf v).inst θ = θ v := if_pos hv
    rw [e]
    exact ⟨Nat.le_refl _, fun h => by have h' : 0 ≤ v := h; omega⟩
  | .un s a, ho, h => by
    have hs := ar_pos (s := s) (by rw [ho.1]; decide)
    simp [Tm.flat] at h
    rcases h with h | h
    · omega
    · have := (inst_size_var (θ := θ) hv ho.2 h).1
      have e : ((Tm.un s a).inst θ).size = (a.inst θ).size + 1 := rfl
      exact ⟨by omega, fun _ => by omega⟩
  | .bin s a b, ho, h => by
    have hs := ar_pos (s := s) (by rw [ho.1]; decide)
    have e : ((Tm.bin s a b).inst θ).size = (a.inst θ).size + (b.inst θ).size + 1 := rfl
    simp [Tm.flat] at h
    rcases h with h | h | h
    · omega
    · have := (inst_size_var (θ := θ) hv ho.2.1 h).1; exact ⟨by omega, fun _ => by omega⟩
    · have := (inst_size_var (θ := θ) hv ho.2.2 h).1; exact ⟨by omega, fun _ => by omega⟩
/-- A variable that stands in a symbol's term never becomes that. -/
theorem occurs_no {β : Bn} {r : Int → Nat} (hr : Rnk r β) {θ : Int → Tm} (hθ : Res β θ) (ho : OkS θ) {v : Int} {t : Tm} (hv : v < 0) (ht : t.ok) (h0 : 0 ≤ t.sg) (hn : v ∈ (t.inst θ).flat)
    {θ' : Int → Tm} (h : Sat θ' β) : θ' v ≠ t.inst θ' := by
  intro e
  have h1 := res_inst hr hθ h t
  have h2 : 0 ≤ (t.inst θ).sg := by rw [(parts_inst θ h0).2]; exact h0
  have h3 := (inst_size_var (θ := θ') hv (inst_ok ho ht) hn).2 h2
  rw [h1, ← e] at h3
  omega

/-- The most general way to make pairs the same, with the greatest variables. -/
structure Mgu (l : List (Tm × Tm)) (θ : Int → Tm) : Prop where
  ok : OkS θ
  same : ∀ p ∈ l, p.1.inst θ = p.2.inst θ
  most : ∀ θ', (∀ p ∈ l, p.1.inst θ' = p.2.inst θ') → ∀ v, v < 0 → (θ v).inst θ' = θ' v
  great : ∀ v w, v < 0 → w < 0 → θ v = .leaf w → v ≤ w

theorem Mgu.twice {l : List (Tm × Tm)} {θ : Int → Tm} (h : Mgu l θ) : ∀ v, v < 0 → (θ v).inst θ = θ v := h.most θ h.same
theorem Mgu.unique {l m : List (Tm × Tm)} {θ τ : Int → Tm} (h : Mgu l θ) (k : Mgu m τ) (hlm : ∀ θ', (∀ p ∈ l, p.1.inst θ' = p.2.inst θ') ↔ (∀ p ∈ m, p.1.inst θ' = p.2.inst θ')) : ∀ v, v < 0 → θ v = τ v := by
  intro v hv
  have h1 := h.most τ ((hlm τ).2 k.same)
  have h2 := k.most θ ((hlm θ).1 h.same)
  have h3 : ((θ v).inst τ).inst θ = (θ v).inst .leaf := by rw [h1 v hv, h2 v hv, inst_self _ (h.ok v hv)]
  rw [inst_inst] at h3
  have h4 : ∀ w ∈ (θ v).flat, w < 0 → τ w = .leaf w := by
    intro w hw h0
    have h5 : (τ w).inst θ = .leaf w := inst_inj (h.ok v hv) h3 w hw h0
    cases hτ : τ w with
    | un s a => rw [hτ] at h5; cases h5
    | bin s a b => rw [hτ] at h5; cases h5
    | leaf s =>
      rw [hτ] at h5
      by_cases hs : s < 0
      · have e : (Tm.leaf s).inst θ = θ s := if_pos hs
        rw [e] at h5
        have a1 := k.great w s h0 hs hτ
        have a2 := h.great s w hs h0 h5
        have : s = w := by omega
        rw [this]
      · have e : (Tm.leaf s).inst θ = .leaf s := if_neg hs
        rw [e] at h5
        cases h5
        omega
  rw [← h1 v hv]
  have h6 : (θ v).inst τ = (θ v).inst .leaf := inst_congr fun w hw h0 => h4 w hw h0
  rw [h6, inst_self _ (h.ok v hv)]

end Go.Proofs.Ytepddehodmljeaa
