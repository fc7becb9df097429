/- Plain: places in terms, what is put there, and what variables become, on trees. No program in sight. -/
import Derived.Test.YtepddehodmljeaaPf
namespace Go.Proofs.Ytepddehodmljeaa

def Tm.parts : Tm → List Tm
  | .leaf _ => []
  | .un _ a => [a]
  | .bin _ a b => [a, b]
def Tm.size : Tm → Nat
  | .leaf _ => 1
  | .un _ a => a.size + 1
  | .bin _ a b => a.size + b.size + 1
theorem size_flat : ∀ x : Tm, x.flat.length = x.size
  | .leaf _ => rfl
  | .un _ a => by simp [Tm.flat, Tm.size, size_flat a]
  | .bin _ a b => by simp [Tm.flat, Tm.size, size_flat a, size_flat b]
theorem size_pos (x : Tm) : 0 < x.size := by cases x <;> simp [Tm.size]
theorem size_part {x p : Tm} (h : p ∈ x.parts) : p.size < x.size := by
  cases x with
  | leaf s => simp [Tm.parts] at h
  | un s a => simp [Tm.parts] at h; subst h; simp [Tm.size]
  | bin s a b => simp [Tm.parts] at h; rcases h with rfl | rfl <;> simp [Tm.size] <;> omega
theorem ok_part {x p : Tm} (hx : x.ok) (h : p ∈ x.parts) : p.ok := by
  cases x with
  | leaf s => simp [Tm.parts] at h
  | un s a => simp [Tm.parts] at h; subst h; exact hx.2
  | bin s a b => simp [Tm.parts] at h; rcases h with rfl | rfl; exact hx.2.1; exact hx.2.2

theorem flat_eq {x y : Tm} (hx : x.ok) (hy : y.ok) (h : x.flat = y.flat) : x = y := (flat_inj x y [] [] hx hy (by rw [h])).1

/-- A sign with parts is a symbol. -/
theorem ar_pos {s : Int} (h : 0 < ar s) : 2 ≤ s := by
  unfold ar at h
  split at h
  · omega
  · omega

/-- The part that begins at a place. -/
def Tm.sub : Tm → Nat → Tm
  | x, 0 => x
  | .leaf s, _ + 1 => .leaf s
  | .un _ a, k + 1 => a.sub k
  | .bin _ a b, k + 1 => if k < a.size then a.sub k else b.sub (k - a.size)
/-- Another one there. -/
def Tm.put : Tm → Nat → Tm → Tm
  | _, 0, u => u
  | .leaf s, _ + 1, _ => .leaf s
  | .un s a, k + 1, u => .un s (a.put k u)
  | .bin s a b, k + 1, u => if k < a.size then .bin s (a.put k u) b else .bin s a (b.put (k - a.size) u)

theorem sub_zero (x : Tm) : x.sub 0 = x := by cases x <;> rfl
theorem put_zero (x u : Tm) : x.put 0 u = u := by cases x <;> rfl

theorem sub_split : ∀ (x : Tm) (k : Nat), k < x.size → ∃ pre r, pre.length = k ∧ x.flat = pre ++ ((x.sub k).flat ++ r) ∧ (∀ u, (x.put k u).flat = pre ++ (u.flat ++ r)) ∧ (x.ok → (x.sub k).ok) ∧ (x.ok → ∀ u : Tm, u.ok → (x.put k u).ok)
  | x, 0, _ => ⟨[], [], rfl, by simp [sub_zero], fun u => by simp [put_zero], by rw [sub_zero]; exact id, fun _ u hu => by rw [put_zero]; exact hu⟩
  | .leaf s, k + 1, h => by simp [Tm.size] at h
  | .un s a, k + 1, h => by
    obtain ⟨pre, r, h1, h2, h3, h4, h5⟩ := sub_split a k (by simp [Tm.size] at h; omega)
    refine ⟨s :: pre, r, by simp [h1], ?_, fun u => ?_, fun h => h4 h.2, fun h u hu => ⟨h.1, h5 h.2 u hu⟩⟩
    · show s :: a.flat = _
      rw [h2]; rfl
    · show s :: (a.put k u).flat = _
      rw [h3]; rfl
  | .bin s a b, k + 1, h => by
    by_cases hk : k < a.size
    · obtain ⟨pre, r, h1, h2, h3, h4, h5⟩ := sub_split a k hk
      have e1 : (Tm.bin s a b).sub (k + 1) = a.sub k := by show (if k < a.size then _ else _) = _; rw [if_pos hk]
      have e2 : ∀ u, (Tm.bin s a b).put (k + 1) u = .bin s (a.put k u) b := fun u => by show (if k < a.size then _ else _) = _; rw [if_pos hk]
      refine ⟨s :: pre, r ++ b.flat, by simp [h1], ?_, fun u => ?_, fun h => by rw [e1]; exact h4 h.2.1, fun h u hu => by rw [e2]; exact ⟨h.1, h5 h.2.1 u hu, h.2.2⟩⟩
      · rw [e1]
        show s :: (a.flat ++ b.flat) = _
        rw [h2]; simp
      · rw [e2]
        show s :: ((a.put k u).flat ++ b.flat) = _
        rw [h3]; simp
    · have hs : k - a.size < b.size := by simp [Tm.size] at h; omega
      obtain ⟨pre, r, h1, h2, h3, h4, h5⟩ := sub_split b (k - a.size) hs
      have e1 : (Tm.bin s a b).sub (k + 1) = b.sub (k - a.size) := by show (if k < a.size then _ else _) = _; rw [if_neg hk]
      have e2 : ∀ u, (Tm.bin s a b).put (k + 1) u = .bin s a (b.put (k - a.size) u) := fun u => by show (if k < a.size then _ else _) = _; rw [if_neg hk]
      refine ⟨s :: (a.flat ++ pre), r, by simp [h1, size_flat]; omega, ?_, fun u => ?_, fun h => by rw [e1]; exact h4 h.2.2, fun h u hu => by rw [e2]; exact ⟨h.1, h.2.1, h5 h.2.2 u hu⟩⟩
      · rw [e1]
        show s :: (a.flat ++ b.flat) = _
        rw [h2]; simp
      · rw [e2]
        show s :: (a.flat ++ (b.put (k - a.size) u).flat) = _
        rw [h3]; simp

theorem tm_at {x : Tm} (hx : x.ok) {k : Nat} (hk : k < x.size) :
    skp x.flat k = ((k + (x.sub k).size : Nat) : Int) ∧ enT x.flat k = k + (x.sub k).size ∧ paT x.flat k = (x.sub k).flat ∧ (∀ u : Tm, puT x.flat k u.flat = (x.put k u).flat) := by
  obtain ⟨pre, r, h1, h2, h3, h4, h5⟩ := sub_split x k hk
  have hd : x.flat.drop k = (x.sub k).flat ++ r := by rw [h2, List.drop_left' h1]
  have hl : x.size = k + ((x.sub k).size + r.length) := by
    have := congrArg List.length h2
    simp only [List.length_append, size_flat] at this
    omega
  have hs : skp x.flat k = ((k + (x.sub k).size : Nat) : Int) := by
    unfold skp
    rw [if_pos ⟨by omega, by rw [size_flat]; omega⟩, Int.toNat_natCast, hd, need_flat _ _ (h4 hx)]
    simp only [size_flat]; omega
  have he : enT x.flat k = k + (x.sub k).size := by unfold enT; rw [hs, Int.toNat_natCast]
  refine ⟨hs, he, ?_, fun u => ?_⟩
  · unfold paT
    rw [he, hd, show k + (x.sub k).size - k = (x.sub k).flat.length by rw [size_flat]; omega, List.take_left]
  · have hd2 : x.flat.drop (k + (x.sub k).size) = r := by
      rw [← List.drop_drop, hd, ← size_flat, List.drop_left]
    have ht : x.flat.take k = pre := by rw [h2, List.take_left' h1]
    unfold puT
    rw [he, hd2, ht, h3]

theorem sub_size {x : Tm} {k : Nat} (hk : k < x.size) : k + (x.sub k).size ≤ x.size := by
  obtain ⟨pre, r, h1, h2, -⟩ := sub_split x k hk
  have := congrArg List.length h2
  simp only [List.length_append, size_flat] at this
  omega
theorem put_size {x : Tm} {k : Nat} (hk : k < x.size) (u : Tm) : (x.put k u).size + (x.sub k).size = x.size + u.size := by
  obtain ⟨pre, r, h1, h2, h3, -⟩ := sub_split x k hk
  have e1 := congrArg List.length h2
  have e2 := congrArg List.length (h3 u)
  simp only [List.length_append, size_flat] at e1 e2
  omega
theorem sub_ok {x : Tm} (hx : x.ok) {k : Nat} (hk : k < x.size) : (x.sub k).ok := by
  obtain ⟨_, _, _, _, _, h, _⟩ := sub_split x k hk; exact h hx
theorem put_ok {x u : Tm} (hx : x.ok) (hu : u.ok) {k : Nat} (hk : k < x.size) : (x.put k u).ok := by
  obtain ⟨_, _, _, _, _, _, h⟩ := sub_split x k hk; exact h hx u hu
/-- The sign that stands at a place is the first one of the part there. -/
theorem sub_sg {x : Tm} {k : Nat} (hk : k < x.size) : nth x.flat k = (x.sub k).sg := by
  obtain ⟨pre, r, h1, h2, -⟩ := sub_split x k hk
  rw [h2, nth_append_right (by omega), h1, Nat.sub_self]
  cases x.sub k <;> simp [Tm.flat, Tm.sg, nth]
theorem sg_flat (x : Tm) : ∃ r, x.flat = x.sg :: r := by cases x <;> exact ⟨_, rfl⟩
theorem put_sub_same {x u : Tm} : ∀ {k : Nat}, k < x.size → (x.put k u).sub k = u := by
  induction x with
  | leaf s => intro k hk; simp [Tm.size] at hk; subst hk; simp [put_zero, sub_zero]
  | un s a ih =>
    intro k hk
    cases k with
    | zero => simp [put_zero, sub_zero]
    | succ k => exact ih (by simp [Tm.size] at hk; omega)
  | bin s a b iha ihb =>
    intro k hk
    cases k with
    | zero => simp [put_zero, sub_zero]
    | succ k =>
      by_cases h : k < a.size
      · have e : (Tm.bin s a b).put (k + 1) u = .bin s (a.put k u) b := by show (if k < a.size then _ else _) = _; rw [if_pos h]
        rw [e]
        have h1 := put_size h u
        have h2 := sub_size h
        have h3 := size_pos u
        show (if k < (a.put k u).size then _ else _) = _
        rw [if_pos (by omega)]
        exact iha h
      · have e : (Tm.bin s a b).put (k + 1) u = .bin s a (b.put (k - a.size) u) := by show (if k < a.size then _ else _) = _; rw [if_neg h]
        rw [e]
        show (if k < a.size then _ else _) = _
        rw [if_neg h]
        exact ihb (by simp [Tm.size] at hk; omega)

/-- What variables become. -/
def Tm.inst (σ : Int → Tm) : Tm → Tm
  | .leaf s => if s < 0 then σ s else .leaf s
  | .un s a => .un s (a.inst σ)
  | .bin s a b => .bin s (a.inst σ) (b.inst σ)

theorem inst_ok {σ : Int → Tm} (hσ : ∀ v, v < 0 → (σ v).ok) : ∀ {x : Tm}, x.ok → (x.inst σ).ok
  | .leaf s, h => by
    show (if s < 0 then σ s else .leaf s).ok
    split
    · exact hσ s (by assumption)
    · exact h
  | .un s a, h => ⟨h.1, inst_ok hσ h.2⟩
  | .bin s a b, h => ⟨h.1, inst_ok hσ h.2.1, inst_ok hσ h.2.2⟩

theorem inst_congr {σ τ : Int → Tm} : ∀ {x : Tm}, (∀ v ∈ x.flat, v < 0 → σ v = τ v) → x.inst σ = x.inst τ
  | .leaf s, h => by
    show (if s < 0 then σ s else .leaf s) = (if s < 0 then τ s else .leaf s)
    split
    · exact h s (by simp [Tm.flat]) (by assumption)
    · rfl
  | .un s a, h => by
    show Tm.un s (a.inst σ) = Tm.un s (a.inst τ)
    rw [inst_congr fun v hv => h v (by simp [Tm.flat, hv])]
  | .bin s a b, h => by
    show Tm.bin s (a.inst σ) (b.inst σ) = Tm.bin s (a.inst τ) (b.inst τ)
    rw [inst_congr fun v hv => h v (by simp [Tm.flat, hv]), inst_congr (x := b) fun v hv => h v (by simp [Tm.flat, hv])]
theorem inst_inst {σ τ : Int → Tm} : ∀ (x : Tm), (x.inst σ).inst τ = x.inst fun v => (σ v).inst τ
  | .leaf s => by
    show (if s < 0 then σ s else .leaf s).inst τ = if s < 0 then (σ s).inst τ else .leaf s
    split
    · rfl
    · rename_i h
      show (if s < 0 then τ s else .leaf s) = _
      rw [if_neg h]
  | .un s a => by
    show Tm.un s _ = Tm.un s _
    rw [inst_inst a]
  | .bin s a b => by
    show Tm.bin s _ _ = Tm.bin s _ _
    rw [inst_inst a, inst_inst b]
theorem inst_self : ∀ (x : Tm), x.ok → x.inst .leaf = x
  | .leaf s, _ => by show (if s < 0 then Tm.leaf s else .leaf s) = _; split <;> rfl
  | .un s a, h => by show Tm.un s _ = _; rw [inst_self a h.2]
  | .bin s a b, h => by show Tm.bin s _ _ = _; rw [inst_self a h.2.1, inst_self b h.2.2]

/-- Signs of a term that become terms: on lists. -/
theorem app_flat {s : List (List Int)} {σ : Int → Tm} : ∀ (x : Tm), x.ok → (∀ v ∈ x.flat, v < 0 → nthT s (-1 - v).toNat = (σ v).flat) → app s x.flat = (x.inst σ).flat
  | .leaf n, _, h => by
    show app s [n] = (if n < 0 then σ n else .leaf n).flat
    have : app s [n] = sb s n := by simp [app]
    rw [this, sb]
    split
    · exact h n (by simp [Tm.flat]) (by assumption)
    · rfl
  | .un n a, hx, h => by
    show app s (n :: a.flat) = n :: (a.inst σ).flat
    have hn : ¬ n < 0 := by
      have := hx.1; unfold ar at this; intro h; rw [if_pos (by omega)] at this; omega
    have : app s (n :: a.flat) = sb s n ++ app s a.flat := by simp [app]
    rw [this, app_flat a hx.2 (fun v hv => h v (by simp [Tm.flat, hv])), sb, if_neg hn]
    rfl
  | .bin n a b, hx, h => by
    show app s (n :: (a.flat ++ b.flat)) = n :: ((a.inst σ).flat ++ (b.inst σ).flat)
    have hn : ¬ n < 0 := by
      have := hx.1; unfold ar at this; intro h; rw [if_pos (by omega)] at this; omega
    have : app s (n :: (a.flat ++ b.flat)) = sb s n ++ (app s a.flat ++ app s b.flat) := by simp [app]
    rw [this, app_flat a hx.2.1 (fun v hv => h v (by simp [Tm.flat, hv])), app_flat b hx.2.2 (fun v hv => h v (by simp [Tm.flat, hv])), sb, if_neg hn]
    rfl

/-- A right list of signs as a tree. -/
def prs : Nat → List Int → Tm × List Int
  | 0, l => (.leaf 0, l)
  | _ + 1, [] => (.leaf 0, [])
  | n + 1, s :: l =>
    if ar s = 0 then (.leaf s, l)
    else if ar s = 1 then (.un s (prs n l).1, (prs n l).2)
    else (.bin s (prs n l).1 (prs n (prs n l).2).1, (prs n (prs n l).2).2)
theorem prs_flat : ∀ (n : Nat) (x : Tm) (r : List Int), x.ok → x.size ≤ n → prs n (x.flat ++ r) = (x, r)
  | 0, x, _, _, h => by have := size_pos x; omega
  | n + 1, .leaf s, r, hx, _ => by
    have h0 : ar s = 0 := hx
    show (if ar s = 0 then _ else _) = _
    rw [if_pos h0]; rfl
  | n + 1, .un s a, r, hx, h => by
    show (if ar s = 0 then _ else if ar s = 1 then (Tm.un s (prs n (a.flat ++ r)).1, (prs n (a.flat ++ r)).2) else _) = _
    rw [if_neg (by rw [hx.1]; decide), if_pos hx.1, prs_flat n a r hx.2 (by simp [Tm.size] at h; omega)]
  | n + 1, .bin s a b, r, hx, h => by
    have e : (Tm.bin s a b).flat ++ r = s :: (a.flat ++ (b.flat ++ r)) := by simp [Tm.flat]
    rw [e]
    show (if ar s = 0 then _ else if ar s = 1 then _ else (Tm.bin s (prs n (a.flat ++ (b.flat ++ r))).1 (prs n (prs n (a.flat ++ (b.flat ++ r))).2).1, (prs n (prs n (a.flat ++ (b.flat ++ r))).2).2)) = _
    rw [if_neg (by rw [hx.1]; decide), if_neg (by rw [hx.1]; decide), prs_flat n a _ hx.2.1 (by simp [Tm.size] at h; omega)]
    show (Tm.bin s a (prs n (b.flat ++ r)).1, (prs n (b.flat ++ r)).2) = _
    rw [prs_flat n b _ hx.2.2 (by simp [Tm.size] at h; omega)]
def tmOf (t : List Int) : Tm := (prs t.length t).1
theorem tmOf_flat {x : Tm} (hx : x.ok) : tmOf x.flat = x := by
  have := prs_flat x.flat.length x [] hx (by rw [size_flat]; exact Nat.le_refl _)
  rw [List.append_nil] at this
  unfold tmOf; rw [this]
theorem tm_need {t : List Int} (h : need t 1 = some []) : (tmOf t).ok ∧ (tmOf t).flat = t := by
  obtain ⟨x, hx, e⟩ := exists_tm t.length t [] (Nat.le_refl _) h
  rw [List.append_nil] at e
  subst e
  rw [tmOf_flat hx]
  exact ⟨hx, rfl⟩
theorem need_tm {x : Tm} (hx : x.ok) : need x.flat 1 = some [] := by
  have := need_flat x [] hx
  rwa [List.append_nil] at this
theorem tm_chk {t : List Int} (h : chk t = 0) : (tmOf t).ok ∧ (tmOf t).flat = t := tm_need (need_of_chk h)

theorem sub_sub : ∀ (x : Tm) (k j : Nat), k < x.size → j < (x.sub k).size → x.sub (k + j) = (x.sub k).sub j
  | x, 0, j, _, _ => by rw [Nat.zero_add, sub_zero]
  | .leaf s, k + 1, j, hk, _ => by simp [Tm.size] at hk
  | .un s x, k + 1, j, hk, hj => by
    have e : k + 1 + j = (k + j) + 1 := by omega
    rw [e]
    exact sub_sub x k j (by simp [Tm.size] at hk; omega) hj
  | .bin s x y, k + 1, j, hk, hj => by
    have e : k + 1 + j = (k + j) + 1 := by omega
    rw [e]
    by_cases hkx : k < x.size
    · have e1 : (Tm.bin s x y).sub (k + 1) = x.sub k := by show (if k < x.size then _ else _) = _; rw [if_pos hkx]
      rw [e1] at hj ⊢
      have h1 := sub_size hkx
      show (if k + j < x.size then x.sub (k + j) else _) = _
      rw [if_pos (by omega), sub_sub x k j hkx hj]
    · have e1 : (Tm.bin s x y).sub (k + 1) = y.sub (k - x.size) := by show (if k < x.size then _ else _) = _; rw [if_neg hkx]
      rw [e1] at hj ⊢
      show (if k + j < x.size then _ else y.sub (k + j - x.size)) = _
      rw [if_neg (by omega), show k + j - x.size = (k - x.size) + j by omega, sub_sub y _ j (by simp [Tm.size] at hk; omega) hj]

end Go.Proofs.Ytepddehodmljeaa
