/- Plain: worlds of three things: what terms are there. -/
import Derived.Test.YtepddehodmljeaaPq
import Derived.Test.YtepddehodmljeaaR7
namespace Go.Proofs.Ytepddehodmljeaa

/-- What a tree is in the world m (26 numbers), its variables being such things. -/
def val (m : List Int) (ρ : Int → Nat) : Tm → Nat
  | .leaf s => if s < 0 then ρ s else (chs (nth m s.toNat) 3).toNat
  | .un s a => (chs (nth m (2 + 3 * (s - 2).toNat + val m ρ a)) 3).toNat
  | .bin s a b => (chs (nth m (8 + 9 * (s - 4).toNat + 3 * val m ρ a + val m ρ b)) 3).toNat

theorem chs3 (c : Int) : (chs c 3).toNat < 3 := by
  have := chs_lt (c := c) (n := 3) (by omega)
  omega
theorem val_lt {m : List Int} {ρ : Int → Nat} (h : ∀ v, v < 0 → ρ v < 3) : ∀ x : Tm, val m ρ x < 3
  | .leaf s => by
    show (if s < 0 then ρ s else _) < 3
    split
    · exact h s (by assumption)
    · exact chs3 _
  | .un _ _ => chs3 _
  | .bin _ _ _ => chs3 _
theorem val_inst {m : List Int} {ρ : Int → Nat} {σ : Int → Tm} : ∀ x : Tm, val m ρ (x.inst σ) = val m (fun v => val m ρ (σ v)) x
  | .leaf s => by
    show val m ρ (if s < 0 then σ s else .leaf s) = (if s < 0 then val m ρ (σ s) else _)
    split
    · rfl
    · rename_i h
      show (if s < 0 then ρ s else _) = _
      rw [if_neg h]
  | .un s a => by
    show (chs (nth m (2 + 3 * (s - 2).toNat + val m ρ (a.inst σ))) 3).toNat = _
    rw [val_inst a]; rfl
  | .bin s a b => by
    show (chs (nth m (8 + 9 * (s - 4).toNat + 3 * val m ρ (a.inst σ) + val m ρ (b.inst σ))) 3).toNat = _
    rw [val_inst a, val_inst b]; rfl
theorem val_congr {m : List Int} {ρ ρ' : Int → Nat} : ∀ {x : Tm}, (∀ v ∈ x.flat, v < 0 → ρ v = ρ' v) → val m ρ x = val m ρ' x
  | .leaf s, h => by
    show (if s < 0 then ρ s else _) = (if s < 0 then ρ' s else _)
    split
    · exact h s (by simp [Tm.flat]) (by assumption)
    · rfl
  | .un s a, h => by
    show (chs (nth m (2 + 3 * (s - 2).toNat + val m ρ a)) 3).toNat = (chs (nth m (2 + 3 * (s - 2).toNat + val m ρ' a)) 3).toNat
    rw [val_congr fun v hv => h v (by simp [Tm.flat, hv])]
  | .bin s a b, h => by
    show (chs (nth m (8 + 9 * (s - 4).toNat + 3 * val m ρ a + val m ρ b)) 3).toNat = (chs (nth m (8 + 9 * (s - 4).toNat + 3 * val m ρ' a + val m ρ' b)) 3).toNat
    rw [val_congr (x := a) fun v hv => h v (by simp [Tm.flat, hv]), val_congr (x := b) fun v hv => h v (by simp [Tm.flat, hv])]
theorem val_put {m : List Int} {ρ : Int → Nat} {u : Tm} : ∀ {x : Tm} {k : Nat}, k < x.size → val m ρ (x.sub k) = val m ρ u → val m ρ (x.put k u) = val m ρ x
  | x, 0, _, h => by rw [put_zero, ← h, sub_zero]
  | .leaf s, k + 1, hk, _ => by simp [Tm.size] at hk
  | .un s a, k + 1, hk, h => by
    have h' : val m ρ (a.sub k) = val m ρ u := h
    show (chs (nth m (2 + 3 * (s - 2).toNat + val m ρ (a.put k u))) 3).toNat = _
    rw [val_put (by simp [Tm.size] at hk; omega) h']; rfl
  | .bin s a b, k + 1, hk, h => by
    have h' : val m ρ (if k < a.size then a.sub k else b.sub (k - a.size)) = val m ρ u := h
    show val m ρ (if k < a.size then Tm.bin s (a.put k u) b else Tm.bin s a (b.put (k - a.size) u)) = _
    by_cases hka : k < a.size
    · rw [if_pos hka] at h' ⊢
      show (chs (nth m (8 + 9 * (s - 4).toNat + 3 * val m ρ (a.put k u) + val m ρ b)) 3).toNat = _
      rw [val_put hka h']; rfl
    · rw [if_neg hka] at h' ⊢
      show (chs (nth m (8 + 9 * (s - 4).toNat + 3 * val m ρ a + val m ρ (b.put (k - a.size) u))) 3).toNat = _
      rw [val_put (by simp [Tm.size] at hk; omega) h']; rfl

/-- Things. -/
def Thg (ρ : Int → Nat) : Prop := ∀ v, v < 0 → ρ v < 3
def Hol (m : List Int) (a b : Tm) : Prop := ∀ ρ, Thg ρ → val m ρ a = val m ρ b
def Wor (m : List Int) (l : Rus) : Prop := ∀ p ∈ l, Hol m (tmOf p.1) (tmOf p.2)

theorem Hol.refl (m : List Int) (a : Tm) : Hol m a a := fun _ _ => rfl
theorem Hol.symm {m : List Int} {a b : Tm} (h : Hol m a b) : Hol m b a := fun ρ hρ => (h ρ hρ).symm
theorem Hol.trans {m : List Int} {a b c : Tm} (h : Hol m a b) (k : Hol m b c) : Hol m a c := fun ρ hρ => (h ρ hρ).trans (k ρ hρ)
theorem Hol.inst {m : List Int} {a b : Tm} (h : Hol m a b) (σ : Int → Tm) : Hol m (a.inst σ) (b.inst σ) := fun ρ hρ => by
  rw [val_inst, val_inst]
  exact h _ fun v _ => val_lt hρ _
theorem Hol.put {m : List Int} {x u : Tm} {k : Nat} (hk : k < x.size) (h : Hol m (x.sub k) u) : Hol m x (x.put k u) := fun ρ hρ => (val_put hk (h ρ hρ)).symm

theorem step_hol {m : List Int} {l : Rus} {t : List Int} (hl : Rul l) (ht : chk t = 0) (hw : Wor m l) {s : Stp} (hs : s ∈ allP l t t.length) : Hol m (tmOf t) (tmOf s.2.2) := by
  obtain ⟨k, hk, n, hn, he⟩ := mem_all.1 hs
  obtain ⟨σ, hr, -, -, h1, h2⟩ := stp_tree hl ht hk hn he
  obtain ⟨hx, hfl⟩ := tm_chk ht
  have hk' : k < (tmOf t).size := by rw [← size_flat, hfl]; exact hk
  rw [h2]
  refine .put hk' ?_
  rw [h1]
  exact (hw _ (nthR_mem hn)).inst _
theorem ofR_hol {m : List Int} {l : Rus} (hl : Rul l) (hw : Wor m l) : ∀ (f n : Nat) (t x : List Int) (j : Nat), chk t = 0 → ofR l f n t = (x, j, 0) → Hol m (tmOf t) (tmOf x)
  | f, n, t, x, j, ht, h => by
    have hz := ofR_zero f n t x j h
    cases hs : stL l t with
    | nil =>
      rw [ofR_end hz hs] at h
      cases h
      exact .refl _ _
    | cons s r' =>
      cases f with
      | zero =>
        rw [ofR_many hz hs] at h
        have := congrArg (fun p => p.2.2) h
        simp at this
      | succ f =>
        rw [ofR_step hz hs] at h
        have hm : s ∈ stL l t := by rw [hs]; exact List.mem_cons_self ..
        have hc := step_chk' hl ht hz hm
        rw [(stL_of hz).1] at hm
        exact (step_hol hl ht hw hm).trans (ofR_hol hl hw f (n + 1) s.2.2 x j hc h)
theorem norm_hol {m : List Int} {l : Rus} {t : List Int} (h : formE l t = 0) (hw : Wor m l) : Hol m (tmOf t) (tmOf (formT l t)) := by
  obtain ⟨h1, h2⟩ := form_zero h
  obtain ⟨h3, h4⟩ := askE_zero h1
  exact ofR_hol h3 hw _ _ _ _ _ h4 h2

/-! ### As the code finds it out -/
def deepK (t : List Int) : Nat → Int
  | 0 => 0
  | k + 1 => max (deepK t k) (-nth t k)
def deepN (t : List Int) : Int := deepK t t.length
theorem deepK_nonneg (t : List Int) : ∀ k, 0 ≤ deepK t k
  | 0 => Int.le_refl _
  | k + 1 => by have := deepK_nonneg t k; rw [deepK]; omega
theorem deepK_ge {t : List Int} : ∀ {k j : Nat}, j < k → -nth t j ≤ deepK t k
  | k + 1, j, h => by
    rw [deepK]
    by_cases e : j = k
    · subst e; omega
    · have := deepK_ge (t := t) (k := k) (j := j) (by omega); omega
theorem deepK_le {t : List Int} (h : Signs t) : ∀ {k : Nat}, k ≤ t.length → deepK t k ≤ 8
  | 0, _ => by rw [deepK]; omega
  | k + 1, hk => by
    have h1 := deepK_le h (k := k) (by omega)
    have h2 := (h _ (nth_mem (t := t) (j := k) (by omega))).1
    rw [deepK]; omega
theorem deep_var {t : List Int} {v : Int} (h : v ∈ t) : -v ≤ deepN t := by
  obtain ⟨j, hj, rfl⟩ := List.getElem_of_mem h
  have := deepK_ge (t := t) hj
  rwa [nth_eq hj] at this

/-- The variables' things that a number stands for. -/
def dig (n x : Nat) : Int → Nat := fun v => if (-v - 1).toNat < n then x / 3 ^ (-v - 1).toNat % 3 else 0
theorem dig_thg (n x : Nat) : Thg (dig n x) := fun v _ => by
  unfold dig
  split
  · exact Nat.mod_lt _ (by omega)
  · omega
theorem exists_dig : ∀ (n : Nat) (ρ : Nat → Nat), (∀ k, ρ k < 3) → ∃ x, x < 3 ^ n ∧ ∀ k, k < n → x / 3 ^ k % 3 = ρ k
  | 0, ρ, h => ⟨0, by simp, fun k hk => by omega⟩
  | n + 1, ρ, h => by
    obtain ⟨x, h1, h2⟩ := exists_dig n (fun k => ρ (k + 1)) fun k => h (k + 1)
    have h0 := h 0
    refine ⟨ρ 0 + 3 * x, by rw [Nat.pow_succ]; omega, fun k hk => ?_⟩
    cases k with
    | zero => simp; omega
    | succ k =>
      have e : (ρ 0 + 3 * x) / 3 ^ (k + 1) = x / 3 ^ k := by
        rw [show 3 ^ (k + 1) = 3 * 3 ^ k by rw [Nat.pow_succ, Nat.mul_comm], ← Nat.div_div_eq_div_mul]
        congr 1
        omega
      rw [e, h2 k (by omega)]

def holN (a b : List Int) : Nat := (max (deepN a) (deepN b)).toNat
def holB (m : List Int) (a b : List Int) : Bool := (List.range (3 ^ holN a b)).all fun x => decide (val m (dig (holN a b) x) (tmOf a) = val m (dig (holN a b) x) (tmOf b))
theorem holN_le {a b : List Int} (ha : Signs a) (hb : Signs b) : holN a b ≤ 8 := by
  have h1 := deepK_le ha (Nat.le_refl _)
  have h2 := deepK_le hb (Nat.le_refl _)
  unfold holN deepN; omega
theorem holB_iff {m a b : List Int} (ha : chk a = 0) (hb : chk b = 0) : holB m a b = true ↔ Hol m (tmOf a) (tmOf b) := by
  constructor
  · intro h ρ hρ
    obtain ⟨x, h1, h2⟩ := exists_dig (holN a b) (fun k => ρ (-1 - (k : Int))) fun k => hρ _ (by omega)
    have h3 := of_decide_eq_true (List.all_eq_true.1 h x (List.mem_range.2 h1))
    have h4 : ∀ v, v < 0 → -v ≤ (holN a b : Int) → ρ v = dig (holN a b) x v := by
      intro v h0 hv
      have hk : (-v - 1).toNat < holN a b := by omega
      unfold dig
      rw [if_pos hk, h2 _ hk]
      congr 1
      omega
    rw [val_congr (ρ := ρ) (ρ' := dig (holN a b) x) (x := tmOf a), h3]
    · refine (val_congr fun v hv h0 => h4 v h0 ?_).symm
      rw [(tm_chk hb).2] at hv
      have := deep_var hv
      unfold holN; omega
    · intro v hv h0
      refine h4 v h0 ?_
      rw [(tm_chk ha).2] at hv
      have := deep_var hv
      unfold holN; omega
  · intro h
    exact List.all_eq_true.2 fun x _ => decide_eq_true (h _ (dig_thg _ _))
def worB (m : List Int) (l : Rus) : Bool := l.all fun p => holB m p.1 p.2
theorem worB_iff {m : List Int} {l : Rus} (hl : Rul l) : worB m l = true ↔ Wor m l := by
  unfold worB Wor
  rw [List.all_eq_true]
  constructor
  · intro h p hp
    obtain ⟨h1, h2⟩ := ruleE_chk (hl.2 p hp)
    exact (holB_iff h1 h2).1 (h p hp)
  · intro h p hp
    obtain ⟨h1, h2⟩ := ruleE_chk (hl.2 p hp)
    exact (holB_iff h1 h2).2 (h p hp)

end Go.Proofs.Ytepddehodmljeaa
