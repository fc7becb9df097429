/- Plain: fitting, on trees. No program in sight. -/
import Derived.Test.YtepddehodmljeaaPg
namespace Go.Proofs.Ytepddehodmljeaa

/-- What variables become, in the order in which they were bound. -/
abbrev Bl := List (Int × List Int)
def lk : Bl → Int → Option (List Int)
  | [], _ => none
  | (k, x) :: l, v => if k = v then some x else lk l v

theorem lk_append (l m : Bl) (v : Int) : lk (l ++ m) v = match lk l v with | some x => some x | none => lk m v := by
  induction l with
  | nil => rfl
  | cons p l ih =>
    obtain ⟨k, x⟩ := p
    by_cases h : k = v
    · simp [lk, h]
    · simp [lk, h, ih]
theorem lk_old {l m : Bl} {v : Int} {x : List Int} (h : lk l v = some x) : lk (l ++ m) v = some x := by rw [lk_append, h]
theorem lk_new {l : Bl} {v : Int} {x : List Int} (h : lk l v = none) : lk (l ++ [(v, x)]) v = some x := by rw [lk_append, h]; simp [lk]
theorem lk_other {l : Bl} {v u : Int} {x : List Int} (h : u ≠ v) : lk (l ++ [(v, x)]) u = lk l u := by
  rw [lk_append]
  cases h1 : lk l u with
  | some y => rfl
  | none => simp [lk, Ne.symm h]
theorem lk_mem {l : Bl} {v : Int} {x : List Int} (h : lk l v = some x) : (v, x) ∈ l := by
  induction l with
  | nil => cases h
  | cons p l ih =>
    obtain ⟨k, y⟩ := p
    rw [lk] at h
    split at h
    · rename_i e; subst e; cases h; simp
    · exact List.mem_cons_of_mem _ (ih h)
theorem lk_none {l : Bl} {v : Int} (h : lk l v = none) : ∀ p ∈ l, p.1 ≠ v := by
  induction l with
  | nil => intro p hp; cases hp
  | cons q l ih =>
    obtain ⟨k, y⟩ := q
    rw [lk] at h
    split at h
    · cases h
    · rename_i e
      intro p hp
      rcases List.mem_cons.1 hp with rfl | hp
      · exact e
      · exact ih h p hp

/-- A variable and the term that it must become. -/
def bindV (bl : Bl) (v : Int) (x : List Int) : Option Bl :=
  match lk bl v with
  | some y => if y = x then some bl else none
  | none => some (bl ++ [(v, x)])

/-- Does the one fit the other? What variables become is noted. -/
def fitM : Tm → Tm → Bl → Option Bl
  | .leaf s, t, bl => if s < 0 then bindV bl s t.flat else if s = t.sg then some bl else none
  | .un s a, .un s' a', bl => if s = s' then fitM a a' bl else none
  | .bin s a c, .bin s' a' c', bl => if s = s' then (fitM a a' bl).bind fun b => fitM c c' b else none
  | _, _, _ => none

/-- Lists of terms, one by one. -/
def fitS : List Tm → List Tm → Bl → Option Bl
  | [], _, bl => some bl
  | _ :: _, [], bl => some bl
  | p :: ps, t :: ts, bl => (fitM p t bl).bind fun b => fitS ps ts b

theorem fitS_var {v : Int} (hv : v < 0) (t : Tm) (ps ts : List Tm) (bl : Bl) : fitS (.leaf v :: ps) (t :: ts) bl = (bindV bl v t.flat).bind fun b => fitS ps ts b := by
  show (fitM (.leaf v) t bl).bind _ = _
  have : fitM (.leaf v) t bl = bindV bl v t.flat := by
    cases t <;> exact if_pos hv
  rw [this]
theorem fitM_clash {p t : Tm} (h0 : 0 ≤ p.sg) (hp : p.ok) (ht : t.ok) (h : p.sg ≠ t.sg) (bl : Bl) : fitM p t bl = none := by
  cases p with
  | leaf s =>
    have h1 : ¬ s < 0 := Int.not_lt.2 h0
    have h2 : ¬ s = t.sg := h
    cases t <;> (show (if s < 0 then _ else if s = _ then _ else _) = _) <;> rw [if_neg h1, if_neg h2]
  | un s a =>
    cases t with
    | leaf => rfl
    | bin => rfl
    | un s' a' =>
      have h' : ¬ s = s' := h
      show (if s = s' then _ else _) = _
      rw [if_neg h']
  | bin s a c =>
    cases t with
    | leaf => rfl
    | un => rfl
    | bin s' a' c' =>
      have h' : ¬ s = s' := h
      show (if s = s' then _ else _) = _
      rw [if_neg h']
theorem fitS_sym {p t : Tm} (h0 : 0 ≤ p.sg) (hp : p.ok) (ht : t.ok) (h : p.sg = t.sg) (ps ts : List Tm) (bl : Bl) : fitS (p :: ps) (t :: ts) bl = fitS (p.parts ++ ps) (t.parts ++ ts) bl := by
  cases p with
  | leaf s =>
    have h1 : ¬ s < 0 := Int.not_lt.2 h0
    have hs : s = t.sg := h
    have e : fitM (.leaf s) t bl = some bl := by
      cases t <;> (show (if s < 0 then _ else if s = _ then _ else _) = _) <;> rw [if_neg h1, if_pos hs]
    show (fitM (.leaf s) t bl).bind _ = _
    rw [e]
    have ha : ar s = 0 := hp
    cases t with
    | leaf => rfl
    | un s' a' => have h2 := ht.1; have h3 : s = s' := hs; rw [← h3, ha] at h2; cases h2
    | bin s' a' c' => have h2 := ht.1; have h3 : s = s' := hs; rw [← h3, ha] at h2; cases h2
  | un s a =>
    have ha : ar s = 1 := hp.1
    cases t with
    | leaf s' => have h2 : ar s' = 0 := ht; have h3 : s = s' := h; rw [← h3, ha] at h2; cases h2
    | bin s' a' c' => have h2 := ht.1; have h3 : s = s' := h; rw [← h3, ha] at h2; cases h2
    | un s' a' =>
      have h' : s = s' := h
      show (if s = s' then fitM a a' bl else none).bind _ = _
      rw [if_pos h']; rfl
  | bin s a c =>
    have ha : ar s = 2 := hp.1
    cases t with
    | leaf s' => have h2 : ar s' = 0 := ht; have h3 : s = s' := h; rw [← h3, ha] at h2; cases h2
    | un s' a' => have h2 := ht.1; have h3 : s = s' := h; rw [← h3, ha] at h2; cases h2
    | bin s' a' c' =>
      have h' : s = s' := h
      show (if s = s' then (fitM a a' bl).bind fun b => fitM c c' b else none).bind _ = (fitM a a' bl).bind fun b => (fitM c c' b).bind fun b => fitS ps ts b
      rw [if_pos h', Option.bind_assoc]

/-- A way of what variables become that says what was noted. -/
def Agrees (σ : Int → Tm) (bl : Bl) : Prop := ∀ v x, lk bl v = some x → (σ v).flat = x

theorem bindV_some {bl bl' : Bl} {v : Int} {x : List Int} (h : bindV bl v x = some bl') : lk bl' v = some x ∧ (∀ u y, lk bl u = some y → lk bl' u = some y) ∧
    (∀ u y, lk bl' u = some y → lk bl u = some y ∨ (u = v ∧ y = x)) := by
  unfold bindV at h
  cases h1 : lk bl v with
  | some y =>
    rw [h1] at h
    simp only at h
    split at h
    · rename_i e; cases h; subst e; exact ⟨h1, fun _ _ h => h, fun _ _ h => .inl h⟩
    · cases h
  | none =>
    rw [h1] at h
    cases h
    refine ⟨lk_new h1, fun u y h => lk_old h, fun u y h => ?_⟩
    by_cases e : u = v
    · subst e; rw [lk_new h1] at h; cases h; exact .inr ⟨rfl, rfl⟩
    · rw [lk_other e] at h; exact .inl h

/-- Whoever agrees with what was noted makes the one the other; all variables are noted; only those, and only with parts. -/
theorem fitM_sound : ∀ (p t : Tm) (bl bl' : Bl), p.ok → t.ok → fitM p t bl = some bl' →
    (∀ u y, lk bl u = some y → lk bl' u = some y) ∧ (∀ v ∈ p.flat, v < 0 → ∃ x, lk bl' v = some x) ∧ (∀ σ : Int → Tm, (∀ v, v < 0 → (σ v).ok) → Agrees σ bl' → p.inst σ = t) ∧
    (∀ u y, lk bl' u = some y → lk bl u = some y ∨ (u ∈ p.flat ∧ u < 0 ∧ ∃ k, k < t.size ∧ y = (t.sub k).flat))
  | .leaf s, t, bl, bl', hp, ht, h => by
    by_cases hs : s < 0
    · have e : fitM (.leaf s) t bl = bindV bl s t.flat := by cases t <;> exact if_pos hs
      rw [e] at h
      obtain ⟨h1, h2, h3⟩ := bindV_some h
      refine ⟨h2, fun v hv _ => ?_, fun σ ho hσ => ?_, fun u y hu => ?_⟩
      · simp [Tm.flat] at hv; subst hv; exact ⟨_, h1⟩
      · have h4 := hσ s _ h1
        show (if s < 0 then σ s else .leaf s) = t
        rw [if_pos hs]
        exact flat_eq (ho s hs) ht h4
      · rcases h3 u y hu with h4 | ⟨rfl, rfl⟩
        · exact .inl h4
        · exact .inr ⟨by simp [Tm.flat], hs, 0, size_pos t, by rw [sub_zero]⟩
    · have e : fitM (.leaf s) t bl = if s = t.sg then some bl else none := by cases t <;> exact if_neg hs
      rw [e] at h
      split at h
      · rename_i e2
        cases h
        refine ⟨fun _ _ h => h, fun v hv h0 => by simp [Tm.flat] at hv; omega, fun σ _ _ => ?_, fun _ _ h => .inl h⟩
        show (if s < 0 then σ s else .leaf s) = t
        rw [if_neg hs]
        have ha : ar s = 0 := hp
        cases t with
        | leaf s' => exact congrArg _ e2
        | un s' a' => have h2 := ht.1; have h3 : s = s' := e2; rw [← h3, ha] at h2; cases h2
        | bin s' a' c' => have h2 := ht.1; have h3 : s = s' := e2; rw [← h3, ha] at h2; cases h2
      · cases h
  | .un s a, .leaf s', bl, bl', _, _, h => by cases h
  | .un s a, .bin s' a' c', bl, bl', _, _, h => by cases h
  | .bin s a c, .leaf s', bl, bl', _, _, h => by cases h
  | .bin s a c, .un s' a', bl, bl', _, _, h => by cases h
  | .un s a, .un s' a', bl, bl', hp, ht, h => by
    change (if s = s' then fitM a a' bl else none) = some bl' at h
    split at h
    · rename_i e
      subst e
      obtain ⟨h1, h2, h3, h4⟩ := fitM_sound a a' bl bl' hp.2 ht.2 h
      have hn : ¬ s < 0 := by have := ar_pos (s := s) (by rw [hp.1]; decide); omega
      refine ⟨h1, fun v hv h0 => ?_, fun σ ho hσ => ?_, fun u y hu => ?_⟩
      · simp [Tm.flat] at hv
        rcases hv with rfl | hv
        · exact absurd h0 hn
        · exact h2 v hv h0
      · show Tm.un s _ = _
        rw [h3 σ ho hσ]
      · rcases h4 u y hu with h5 | ⟨h5, h6, k, hk, h7⟩
        · exact .inl h5
        · exact .inr ⟨by simp [Tm.flat, h5], h6, k + 1, by simp [Tm.size]; omega, h7⟩
    · cases h
  | .bin s a c, .bin s' a' c', bl, bl', hp, ht, h => by
    change (if s = s' then (fitM a a' bl).bind fun b => fitM c c' b else none) = some bl' at h
    split at h
    · rename_i e
      subst e
      cases hm : fitM a a' bl with
      | none => rw [hm] at h; cases h
      | some bm =>
        rw [hm] at h
        have h : fitM c c' bm = some bl' := h
        obtain ⟨h1, h2, h3, h4⟩ := fitM_sound a a' bl bm hp.2.1 ht.2.1 hm
        obtain ⟨k1, k2, k3, k4⟩ := fitM_sound c c' bm bl' hp.2.2 ht.2.2 h
        have hn : ¬ s < 0 := by have := ar_pos (s := s) (by rw [hp.1]; decide); omega
        refine ⟨fun u y hu => k1 u y (h1 u y hu), fun v hv h0 => ?_, fun σ ho hσ => ?_, fun u y hu => ?_⟩
        · simp [Tm.flat] at hv
          rcases hv with rfl | hv | hv
          · exact absurd h0 hn
          · obtain ⟨x, hx⟩ := h2 v hv h0; exact ⟨x, k1 v x hx⟩
          · exact k2 v hv h0
        · show Tm.bin s _ _ = _
          rw [h3 σ ho fun v x hv => hσ v x (k1 v x hv), k3 σ ho hσ]
        · rcases k4 u y hu with h5 | ⟨h5, h6, k, hk, h7⟩
          · rcases h4 u y h5 with h5 | ⟨h5, h6, k, hk, h7⟩
            · exact .inl h5
            · refine .inr ⟨by simp [Tm.flat, h5], h6, k + 1, by simp [Tm.size]; omega, ?_⟩
              show y = (if k < a'.size then a'.sub k else c'.sub (k - a'.size)).flat
              rw [if_pos hk]; exact h7
          · refine .inr ⟨by simp [Tm.flat, h5], h6, a'.size + k + 1, by simp [Tm.size]; omega, ?_⟩
            show y = (if a'.size + k < a'.size then a'.sub _ else c'.sub (a'.size + k - a'.size)).flat
            rw [if_neg (by omega), Nat.add_sub_cancel_left]; exact h7
    · cases h

/-- Where some way makes the one the other, it fits. -/
theorem fitM_complete (σ : Int → Tm) : ∀ (p t : Tm) (bl : Bl), p.ok → p.inst σ = t → Agrees σ bl → ∃ bl', fitM p t bl = some bl' ∧ Agrees σ bl'
  | .leaf s, t, bl, hp, h, ha => by
    by_cases hs : s < 0
    · have e : fitM (.leaf s) t bl = bindV bl s t.flat := by cases t <;> exact if_pos hs
      have h' : (if s < 0 then σ s else .leaf s) = t := h
      rw [if_pos hs] at h'
      rw [e]
      unfold bindV
      cases h1 : lk bl s with
      | some y =>
        have := ha s y h1
        simp only
        rw [if_pos (by rw [← this, h'])]
        exact ⟨bl, rfl, ha⟩
      | none =>
        refine ⟨_, rfl, fun v x hv => ?_⟩
        by_cases e : v = s
        · subst e; rw [lk_new h1] at hv; cases hv; rw [h']
        · rw [lk_other e] at hv; exact ha v x hv
    · have h' : (if s < 0 then σ s else .leaf s) = t := h
      rw [if_neg hs] at h'
      subst h'
      refine ⟨bl, ?_, ha⟩
      show (if s < 0 then _ else if s = s then _ else _) = _
      rw [if_neg hs, if_pos rfl]
  | .un s a, t, bl, hp, h, ha => by
    subst h
    obtain ⟨bl', h1, h2⟩ := fitM_complete σ a (a.inst σ) bl hp.2 rfl ha
    refine ⟨bl', ?_, h2⟩
    show (if s = s then _ else _) = _
    rw [if_pos rfl]; exact h1
  | .bin s a c, t, bl, hp, h, ha => by
    subst h
    obtain ⟨bm, h1, h2⟩ := fitM_complete σ a (a.inst σ) bl hp.2.1 rfl ha
    obtain ⟨bl', h3, h4⟩ := fitM_complete σ c (c.inst σ) bm hp.2.2 rfl h2
    refine ⟨bl', ?_, h4⟩
    show (if s = s then (fitM a (a.inst σ) bl).bind _ else _) = _
    rw [if_pos rfl, h1]; exact h3

/-- What is handed out: all eight. -/
def outS (bl : Bl) : List (List Int) := (List.range 8).map fun k : Nat => (lk bl (-1 - (k : Int))).getD [-1 - (k : Int)]
theorem outS_len (bl : Bl) : (outS bl).length = 8 := by simp [outS]
theorem outS_nth (bl : Bl) {v : Int} (h1 : -8 ≤ v) (h2 : v < 0) : nthT (outS bl) (-1 - v).toNat = (lk bl v).getD [v] := by
  have hk : (-1 - v).toNat < (outS bl).length := by rw [outS_len]; omega
  rw [nthT_eq hk]
  simp only [outS, List.getElem_map, List.getElem_range]
  rw [show -1 - (((-1 - v).toNat : Nat) : Int) = v by omega]

/-- Fitting, of lists of signs: what comes, if anything. -/
def fitL (p t : List Int) : Option (List (List Int)) := (fitM (tmOf p) (tmOf t) []).map outS

end Go.Proofs.Ytepddehodmljeaa
