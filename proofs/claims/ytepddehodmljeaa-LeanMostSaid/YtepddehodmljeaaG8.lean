/- Plain: pairs of rules laid over each other; one form; a turn and a run of closing. No program in sight. -/
import Derived.Test.YtepddehodmljeaaG7
import Derived.Test.YtepddehodmljeaaPq
import Derived.Test.YtepddehodmljeaaPv
import Derived.Test.YtepddehodmljeaaO2
namespace Go.Proofs.Ytepddehodmljeaa

def othN (n : Int) : Int := if n < 0 then n - 4 else n
def othT (t : List Int) : List Int := t.map othN
theorem othN_pos {s : Int} (h : 0 < ar s) : othN s = s := by have := ar_pos h; exact if_neg (by omega)
theorem othT_flat : ∀ x : Tm, x.ok → othT x.flat = (oth x).flat
  | .leaf s, _ => by
    by_cases h : s < 0
    · have e : oth (.leaf s) = .leaf (s - 4) := if_pos h
      rw [e]; simp [othT, othN, Tm.flat, h]
    · have e : oth (.leaf s) = .leaf s := if_neg h
      rw [e]; simp [othT, othN, Tm.flat, h]
  | .un s a, hx => by
    have e : oth (.un s a) = .un s (oth a) := rfl
    have h1 : othT (Tm.un s a).flat = othN s :: othT a.flat := rfl
    rw [e, h1, othT_flat a hx.2, othN_pos (by rw [hx.1]; decide)]; rfl
  | .bin s a b, hx => by
    have e : oth (.bin s a b) = .bin s (oth a) (oth b) := rfl
    have h1 : othT (Tm.bin s a b).flat = othN s :: (othT a.flat ++ othT b.flat) := by simp [othT, Tm.flat]
    rw [e, h1, othT_flat a hx.2.1, othT_flat b hx.2.2, othN_pos (by rw [hx.1]; decide)]; rfl
theorem oth_ok {x : Tm} (h : x.ok) : (oth x).ok := inst_ok (fun v hv => by show ar (v - 4) = 0; unfold ar; rw [if_pos (by omega)]) h
theorem othT_tm {t : List Int} (h : chk t = 0) : tmOf (othT t) = oth (tmOf t) := by
  obtain ⟨h1, h2⟩ := tm_chk h
  have h3 := othT_flat _ h1
  rw [h2] at h3
  rw [h3, tmOf_flat (oth_ok h1)]
theorem othT_chk {t : List Int} (h : chk t = 0) (ho : ownB t = true) : chk (othT t) = 0 := by
  obtain ⟨h1, h2⟩ := tm_chk h
  have h3 := othT_flat _ h1
  rw [h2] at h3
  refine chk_of (by rw [othT, List.length_map]; exact len_of_chk h) (fun x hx => ?_) (by rw [h3]; exact need_tm (oth_ok h1))
  obtain ⟨y, hy, rfl⟩ := List.mem_map.1 hx
  have h4 := signs_of_chk h y hy
  have h5 : -4 ≤ y := by simpa using List.all_eq_true.1 ho y hy
  unfold othN
  split <;> omega

abbrev Ru := List Int × List Int
/-- A rule laid over a term, at a place: what variables become, and the term then. -/
def lapX (fb : Fb) (r : Ru) (t : List Int) (k : Nat) : Sln := solX fb [(tmOf (paT t k), tmOf (othT r.1))]
def lapTo (fb : Fb) (r : Ru) (t : List Int) (k : Nat) : List Int := app (lapX fb r t k).1 (puT t k (othT r.2))
abbrev Lp := Nat × List (List Int) × List Int
def lapO (fb : Fb) (r : Ru) (t : List Int) (ps : Nat → Bool) (k : Nat) : Option Lp :=
  if decide (nth t k < 0) || ps k then none else if (lapX fb r t k).2.1 = true then some (k, (lapX fb r t k).1, lapTo fb r t k) else none
def lapB (fb : Fb) (r : Ru) (t : List Int) (ps : Nat → Bool) (k : Nat) : Bool :=
  !(decide (nth t k < 0) || ps k) && (decide ((lapX fb r t k).2.2 ≠ 0) || ((lapX fb r t k).2.1 && decide (30 < (lapTo fb r t k).length)))
def lapP (fb : Fb) (r : Ru) (t : List Int) (ps : Nat → Bool) (k : Nat) : List Lp := (List.range k).filterMap (lapO fb r t ps)
def lapsB (fb : Fb) (r : Ru) (t : List Int) (ps : Nat → Bool) : Bool := (List.range t.length).any (lapB fb r t ps)
def lapsE (fb : Fb) (r : Ru) (t : List Int) (ps : Nat → Bool) : Int := if lapsB fb r t ps = true then 2 else 0
def lapsL (fb : Fb) (r : Ru) (t : List Int) (ps : Nat → Bool) : List Lp := if lapsB fb r t ps = true then [] else lapP fb r t ps t.length

theorem lap_solve {fb : Fb} (hfb : FbOk fb) {r : Ru} (hr : ruleE r = 0) {t : List Int} (ht : chk t = 0) {k : Nat} (hk : k < t.length) :
    SolveR [((tmOf t).sub k, oth (tmOf r.1))] (lapX fb r t k).1 (lapX fb r t k).2.1 (lapX fb r t k).2.2 := by
  obtain ⟨h1, -, h3, -⟩ := ruleE_all hr
  obtain ⟨g1, g2, -⟩ := sub_flat ht hk
  have e : tmOf (paT t k) = (tmOf t).sub k := by rw [← g2, tmOf_flat g1]
  have := solX_R hfb (l := [(tmOf (paT t k), tmOf (othT r.1))]) (fun p hp => by
    simp at hp; subst hp; exact rtP_of (chk_paT ht hk) (othT_chk h1 h3))
  unfold lapX
  rw [e, othT_tm h1] at this ⊢
  exact this

theorem solveR_e {l : List (Tm × Tm)} {s : List (List Int)} {is : Bool} {e : Int} (h : SolveR l s is e) : (e = 0 ∨ e = 2) ∧ (is = true → e = 0) := by
  rcases h with ⟨-, rfl, rfl, -⟩ | ⟨θ, -, -, ⟨-, -, rfl, rfl⟩ | ⟨-, -, rfl, rfl⟩⟩
  · exact ⟨.inl rfl, fun h => by cases h⟩
  · exact ⟨.inl rfl, fun _ => rfl⟩
  · exact ⟨.inr rfl, fun h => by cases h⟩

/-- What a lap is. -/
structure LapIs (r : Ru) (t : List Int) (k : Nat) (s : List (List Int)) (tz : List Int) (θ : Int → Tm) : Prop where
  mgu : Mgu [((tmOf t).sub k, oth (tmOf r.1))] θ
  sg : SgS θ
  sub : s = meetS θ
  right : RightS s
  tz : tz = (((tmOf t).put k (oth (tmOf r.2))).inst θ).flat

theorem puT_tm {t u : List Int} (ht : chk t = 0) {x : Tm} (hx : x.flat = u) {k : Nat} (hk : k < t.length) : puT t k u = ((tmOf t).put k x).flat := by
  obtain ⟨h1, h2⟩ := tm_chk ht
  have := (tm_at h1 (k := k) (by rw [← size_flat, h2]; exact hk)).2.2.2 x
  rw [h2, hx] at this
  exact this
theorem lt_tm {t : List Int} (ht : chk t = 0) {k : Nat} (hk : k < t.length) : k < (tmOf t).size := by
  rw [← size_flat, (tm_chk ht).2]; exact hk
theorem flat_put {x : Tm} (hx : x.ok) {u : Tm} {k : Nat} (hk : k < x.size) : ∀ s ∈ (x.put k u).flat, s ∈ x.flat ∨ s ∈ u.flat := by
  intro s hs
  rw [← (tm_at hx hk).2.2.2 u] at hs
  unfold puT at hs
  rcases List.mem_append.1 hs with h | h
  · exact .inl (List.take_subset _ _ h)
  · rcases List.mem_append.1 h with h | h
    · exact .inr h
    · exact .inl (List.drop_subset _ _ h)

theorem lap_yes {fb : Fb} (hfb : FbOk fb) {r : Ru} (hr : ruleE r = 0) {t : List Int} (ht : chk t = 0) {k : Nat} (hk : k < t.length) (h : (lapX fb r t k).2.1 = true) :
    ∃ θ, LapIs r t k (lapX fb r t k).1 (lapTo fb r t k) θ := by
  have hS := lap_solve hfb hr ht hk
  obtain ⟨h1, h2, h3, h4, -⟩ := ruleE_all hr
  rcases hS with ⟨-, e, -⟩ | ⟨θ, hθ, hg, ⟨hs, e1, -, -⟩ | ⟨-, -, e, -⟩⟩
  · rw [h] at e; cases e
  · have hR := meetS_right hθ hg hs
    obtain ⟨g1, g2⟩ := tm_chk ht
    obtain ⟨q1, q2⟩ := tm_chk h2
    have hou : (oth (tmOf r.2)).flat = othT r.2 := by rw [← othT_flat _ q1, q2]
    have hpk := put_ok g1 (oth_ok q1) (lt_tm ht hk)
    refine ⟨θ, hθ, hg, e1, by rw [e1]; exact hR, ?_⟩
    unfold lapTo
    rw [e1, puT_tm ht hou hk]
    refine meetS_app hpk fun s hs => ?_
    rcases flat_put g1 (lt_tm ht hk) s hs with h5 | h5
    · rw [g2] at h5; exact (signs_of_chk ht s h5).1
    · rw [hou] at h5; exact (signs_of_chk (othT_chk h2 h4) s h5).1
  · rw [h] at e; cases e

/-- Both sides of a pair are the same, where both rules hold. -/
theorem lap_hol {m : List Int} {ri rj : Ru} {k : Nat} {s : List (List Int)} {tz : List Int} {θ : Int → Tm} (h : LapIs rj ri.1 k s tz θ) (hi : chk ri.1 = 0) (hk : k < ri.1.length)
    (mi : Hol m (tmOf ri.1) (tmOf ri.2)) (mj : Hol m (tmOf rj.1) (tmOf rj.2)) : Hol m (((tmOf ri.1).put k (oth (tmOf rj.2))).inst θ) ((tmOf ri.2).inst θ) := by
  refine Hol.trans (fun ρ hρ => ?_) (mi.inst θ)
  rw [val_inst, val_inst]
  refine val_put (lt_tm hi hk) ?_
  have h1 := h.mgu.same ((tmOf ri.1).sub k, oth (tmOf rj.1)) (List.mem_cons_self ..)
  have h2 := congrArg (val m ρ) h1
  rw [val_inst, val_inst] at h2
  rw [h2]
  exact mj.inst (fun v => .leaf (v - 4)) _ fun v _ => val_lt hρ _

/-! ### Smooth, as a renaming -/
def ren (S : List Int) (n : Int) : Int := if 0 ≤ n then n else -1 - (S.idxOf n : Int)
theorem adds_pre (seen : List Int) (n : Int) : ∃ e, adds seen n = seen ++ e := by
  unfold adds
  split
  · exact ⟨[], by simp⟩
  · exact ⟨[n], rfl⟩
theorem seenA_pre : ∀ (t seen : List Int), ∃ e, seenA seen t = seen ++ e
  | [], seen => ⟨[], by simp [seenA]⟩
  | n :: t, seen => by
    obtain ⟨e1, h1⟩ := adds_pre seen n
    obtain ⟨e2, h2⟩ := seenA_pre t (adds seen n)
    exact ⟨e1 ++ e2, by show seenA (adds seen n) t = _; rw [h2, h1, List.append_assoc]⟩
theorem adds_mem {seen : List Int} {n : Int} (h : n < 0) : n ∈ adds seen n := by
  unfold adds
  split
  · rename_i h2; exact h2.resolve_left (by omega)
  · simp
theorem smo_ren : ∀ (t seen e : List Int), smo seen t = t.map (ren (seenA seen t ++ e))
  | [], _, _ => rfl
  | n :: t, seen, e => by
    have h1 : seenA seen (n :: t) = seenA (adds seen n) t := rfl
    obtain ⟨e2, h2⟩ := seenA_pre t (adds seen n)
    rw [smo, List.map_cons, h1, ← smo_ren t (adds seen n) e]
    congr 1
    by_cases h : 0 ≤ n
    · rw [nm, if_pos h, ren, if_pos h]
    · rw [nm_neg _ _ (by omega), ren, if_neg h, h2, List.append_assoc, List.idxOf_append, if_pos (adds_mem (by omega))]
theorem ar_ren (S : List Int) (n : Int) : ar (ren S n) = ar n := by
  by_cases h : 0 ≤ n
  · rw [ren, if_pos h]
  · rw [ren, if_neg h, ar_neg (by omega), ar_neg (by omega)]
theorem ren_flat (S : List Int) : ∀ x : Tm, x.ok → (x.inst fun v => .leaf (ren S v)).flat = x.flat.map (ren S)
  | .leaf s, _ => by
    by_cases h : s < 0
    · have e : (Tm.leaf s).inst (fun v => .leaf (ren S v)) = .leaf (ren S s) := if_pos h
      rw [e]; rfl
    · have e : (Tm.leaf s).inst (fun v => .leaf (ren S v)) = .leaf s := if_neg h
      rw [e]
      have h2 : ren S s = s := if_pos (by omega)
      show [s] = [ren S s]
      rw [h2]
  | .un s a, hx => by
    have hp := ar_pos (s := s) (by rw [hx.1]; decide)
    have e : ((Tm.un s a).inst fun v => .leaf (ren S v)).flat = s :: (a.inst fun v => .leaf (ren S v)).flat := rfl
    have e2 : (Tm.un s a).flat.map (ren S) = ren S s :: a.flat.map (ren S) := rfl
    rw [e, e2, ren_flat S a hx.2, ren, if_pos (by omega)]
  | .bin s a b, hx => by
    have hp := ar_pos (s := s) (by rw [hx.1]; decide)
    have e : ((Tm.bin s a b).inst fun v => .leaf (ren S v)).flat = s :: ((a.inst fun v => .leaf (ren S v)).flat ++ (b.inst fun v => .leaf (ren S v)).flat) := rfl
    have e2 : (Tm.bin s a b).flat.map (ren S) = ren S s :: (a.flat.map (ren S) ++ b.flat.map (ren S)) := by simp [Tm.flat]
    rw [e, e2, ren_flat S a hx.2.1, ren_flat S b hx.2.2, ren, if_pos (by omega)]
theorem ren_ok (S : List Int) {x : Tm} (h : x.ok) : (x.inst fun v => .leaf (ren S v)).ok := inst_ok (fun v hv => by show ar (ren S v) = 0; rw [ar_ren, ar_neg hv]) h
/-- Two terms, one behind the other, their variables plain: what both become by one renaming. -/
theorem smo_two {a b : List Int} (ha : chk a = 0) (hb : chk b = 0) : ∃ S : List Int, tmOf (smo [] a) = (tmOf a).inst (fun v => .leaf (ren S v)) ∧ tmOf (smo (seenA [] a) b) = (tmOf b).inst fun v => .leaf (ren S v) := by
  obtain ⟨e, he⟩ := seenA_pre b (seenA [] a)
  obtain ⟨h1, h2⟩ := tm_chk ha
  obtain ⟨k1, k2⟩ := tm_chk hb
  refine ⟨seenA (seenA [] a) b, ?_, ?_⟩
  · rw [smo_ren a [] e, ← he, ← tmOf_flat (ren_ok _ h1), ren_flat _ _ h1, h2]
  · rw [smo_ren b (seenA [] a) [], List.append_nil, ← tmOf_flat (ren_ok _ k1), ren_flat _ _ k1, k2]
theorem adds_low' {seen : List Int} {n : Int} (h : ∀ x ∈ seen, -8 ≤ x ∧ x < 0) (hn : -8 ≤ n) : ∀ x ∈ adds seen n, -8 ≤ x ∧ x < 0 := adds_low h hn
theorem seenA_low : ∀ (t seen : List Int), (∀ x ∈ seen, -8 ≤ x ∧ x < 0) → Signs t → ∀ x ∈ seenA seen t, -8 ≤ x ∧ x < 0
  | [], _, h, _ => h
  | n :: t, _, h, ht => seenA_low t _ (adds_low h (ht n (by simp)).1) fun x hx => ht x (List.mem_cons_of_mem _ hx)
theorem chk_smo2 {a b : List Int} (ha : chk a = 0) (hb : chk b = 0) : chk (smo (seenA [] a) b) = 0 :=
  chk_of (by rw [smo_length]; exact len_of_chk hb) (smo_signs b _ (seenA_nodup List.nodup_nil a) (seenA_low a [] (fun x hx => by cases hx) (signs_of_chk ha)) (signs_of_chk hb)) (smo_need b _ 1 (need_of_chk hb))

/-- Do variables come in their order? -/
def nxB : Int → List Int → Bool
  | _, [] => true
  | m, n :: l => if n < m then false else nxB (if n = m then m - 1 else m) l
theorem nx_smo : ∀ (t seen : List Int), nxB (-1 - (seen.length : Int)) (smo seen t) = true
  | [], _ => rfl
  | n :: t, seen => by
    rw [smo, nxB]
    by_cases hn : 0 ≤ n
    · have h1 : nm seen n = n := by rw [nm, if_pos hn]
      have h2 : adds seen n = seen := by rw [adds, if_pos (.inl hn)]
      rw [h1, h2, if_neg (by omega), if_neg (by omega)]; exact nx_smo t seen
    · by_cases hm : n ∈ seen
      · have h2 : adds seen n = seen := by rw [adds, if_pos (.inr hm)]
        have hi : seen.idxOf n < seen.length := List.idxOf_lt_length_of_mem hm
        rw [nm_neg _ _ (by omega), h2, if_neg (by omega), if_neg (by omega)]; exact nx_smo t seen
      · have h2 : adds seen n = seen ++ [n] := by rw [adds, if_neg (by rintro (h | h); exact hn h; exact hm h)]
        have := nx_smo t (seen ++ [n])
        rw [List.length_append] at this
        rw [nm_neg _ _ (by omega), h2, idxOf_new hm, if_neg (by omega), if_pos rfl, ← this]
        congr 1
        simp; omega

/-! ### Two rules -/
def psX (i j : Nat) (k : Nat) : Bool := decide (i = j) && decide (k = 0)
def twoTo (ri : Ru) (x : Lp) : List Int := app x.2.1 ri.2
def twoPr (ri : Ru) (x : Lp) : Ru := (smo [] x.2.2, smo (seenA [] x.2.2) (twoTo ri x))
def twoB (ri : Ru) (ls : List Lp) : Bool := ls.any fun x => decide (30 < (twoTo ri x).length)
def lapsIJ (fb : Fb) (l : Rus) (i j : Nat) : List Lp := lapP fb (nthR l j) (nthR l i).1 (psX i j) (nthR l i).1.length
def twoE (fb : Fb) (l : Rus) (i j : Nat) : Int :=
  if lapsB fb (nthR l j) (nthR l i).1 (psX i j) = true then 2 else if twoB (nthR l i) (lapsIJ fb l i j) = true then 2 else 0
def twoL (fb : Fb) (l : Rus) (i j : Nat) : List Ru := if twoE fb l i j = 0 then (lapsIJ fb l i j).map (twoPr (nthR l i)) else []
theorem twoE_zero {fb : Fb} {l : Rus} {i j : Nat} (h : twoE fb l i j = 0) : lapsB fb (nthR l j) (nthR l i).1 (psX i j) = false ∧ twoB (nthR l i) (lapsIJ fb l i j) = false := by
  unfold twoE at h
  split at h
  · omega
  · split at h
    · omega
    · rename_i h1 h2
      exact ⟨by simpa using h1, by simpa using h2⟩

def symN (t : List Int) : Nat := t.countP fun n => decide (0 ≤ n)
theorem filterMap_len {α β : Type} (f : α → Option β) (p : α → Bool) : ∀ (l : List α), (∀ x ∈ l, (f x).isSome → p x = true) → (l.filterMap f).length ≤ l.countP p
  | [], _ => by simp
  | a :: l, h => by
    have ih := filterMap_len f p l fun x hx => h x (List.mem_cons_of_mem _ hx)
    rw [List.filterMap_cons, List.countP_cons]
    cases hf : f a with
    | none => dsimp only; omega
    | some b =>
      have := h a (List.mem_cons_self ..) (by rw [hf]; rfl)
      rw [this]
      simp; omega
theorem symN_range (t : List Int) : (List.range t.length).countP (fun k => decide (0 ≤ nth t k)) = symN t := by
  have e : (List.range t.length).map (nth t) = t := by
    refine List.ext_getElem (by simp) fun n h1 h2 => ?_
    simp [nth_eq h2]
  have : symN t = ((List.range t.length).map (nth t)).countP fun n => decide (0 ≤ n) := by rw [e]; rfl
  rw [this, List.countP_map]
  rfl
theorem lapP_len (fb : Fb) (r : Ru) (t : List Int) (ps : Nat → Bool) : (lapP fb r t ps t.length).length ≤ symN t := by
  rw [← symN_range]
  refine filterMap_len _ _ _ fun k _ h => ?_
  unfold lapO at h
  split at h
  · cases h
  · rename_i h2
    simp at h2 ⊢
    omega
theorem lapP_len0 (fb : Fb) (r : Ru) {t : List Int} (ht : t ≠ []) (h0 : 0 ≤ nth t 0) (i : Nat) : (lapP fb r t (psX i i) t.length).length < symN t := by
  obtain ⟨n, t', rfl⟩ := List.exists_cons_of_ne_nil ht
  have h0' : 0 ≤ n := h0
  rw [← symN_range]
  have hl : (n :: t').length = t'.length + 1 := rfl
  rw [hl, lapP, List.range_succ_eq_map, List.filterMap_cons, List.countP_cons]
  have e : lapO fb r (n :: t') (psX i i) 0 = none := by
    unfold lapO
    rw [if_pos]
    simp [psX]
  rw [e]
  have hd : decide (0 ≤ nth (n :: t') 0) = true := decide_eq_true h0
  rw [hd, if_pos rfl]
  have := filterMap_len (lapO fb r (n :: t') (psX i i)) (fun k => decide (0 ≤ nth (n :: t') k)) ((List.range t'.length).map Nat.succ) fun k _ h => by
    unfold lapO at h
    split at h
    · cases h
    · rename_i h2
      simp at h2 ⊢
      omega
  dsimp only
  omega

theorem signs_app {s : List (List Int)} (hs : RightS s) {t : List Int} (ht : Signs t) : Signs (app s t) := by
  intro y hy
  obtain ⟨x, hx, hy⟩ := List.mem_flatMap.1 hy
  by_cases h : x < 0
  · exact signs_of_chk (sb_right hs (ht x hx).1 h) y hy
  · rw [sb, if_neg h] at hy
    simp at hy; subst hy
    exact ht _ hx
theorem lap_mem {fb : Fb} {r : Ru} {t : List Int} {ps : Nat → Bool} {n : Nat} {x : Lp} (h : x ∈ lapP fb r t ps n) : x.1 < n ∧ 0 ≤ nth t x.1 ∧ ps x.1 = false ∧ (lapX fb r t x.1).2.1 = true ∧ x.2.1 = (lapX fb r t x.1).1 ∧ x.2.2 = lapTo fb r t x.1 := by
  obtain ⟨k, hk, e⟩ := List.mem_filterMap.1 h
  unfold lapO at e
  split at e
  · cases e
  · rename_i h2
    split at e
    · rename_i h3
      cases e
      simp at h2
      exact ⟨List.mem_range.1 hk, h2.1, h2.2, h3, rfl, rfl⟩
    · cases e
theorem signs_puT {t u : List Int} (ht : Signs t) (hu : Signs u) (k : Nat) : Signs (puT t k u) := by
  intro s hs
  unfold puT at hs
  rcases List.mem_append.1 hs with h | h
  · exact ht s (List.take_subset _ _ h)
  · rcases List.mem_append.1 h with h | h
    · exact hu s h
    · exact ht s (List.drop_subset _ _ h)

/-- A lap that is not too large: what it is, and that all is right. -/
theorem lap_right {fb : Fb} (hfb : FbOk fb) {r : Ru} (hr : ruleE r = 0) {t : List Int} (ht : chk t = 0) {ps : Nat → Bool} (hB : lapsB fb r t ps = false) {x : Lp} (hx : x ∈ lapP fb r t ps t.length) :
    ∃ θ, LapIs r t x.1 x.2.1 x.2.2 θ ∧ chk x.2.2 = 0 ∧ OkS θ := by
  obtain ⟨h1, h2, h3, h4, h5, h6⟩ := lap_mem hx
  obtain ⟨θ, hθ⟩ := lap_yes hfb hr ht h1 h4
  have hok := hθ.mgu.ok
  refine ⟨θ, by rw [h5, h6]; exact hθ, ?_, hok⟩
  obtain ⟨g1, g2, -, g4, -⟩ := ruleE_all hr
  obtain ⟨q1, q2⟩ := tm_chk g2
  obtain ⟨k1, k2⟩ := tm_chk ht
  have hlen : (lapTo fb r t x.1).length ≤ 30 := by
    have := List.any_eq_false.1 hB x.1 (List.mem_range.2 h1)
    simp [lapB, h4] at this
    exact (this h2 h3).2
  rw [h6]
  refine chk_of hlen ?_ ?_
  · unfold lapTo
    exact signs_app hθ.right (signs_puT (signs_of_chk ht) (signs_of_chk (othT_chk g2 g4)) _)
  · rw [hθ.tz]
    exact need_tm (inst_ok hok (put_ok k1 (oth_ok q1) (lt_tm ht h1)))

theorem pairs_model {fb : Fb} (hfb : FbOk fb) {l : Rus} (hl : Rul l) {i j : Nat} (hi : i < l.length) (hj : j < l.length) (h : twoE fb l i j = 0) :
    (twoL fb l i j).length ≤ symN (nthR l i).1 ∧ (i = j → (twoL fb l i j).length < symN (nthR l i).1) ∧
    ∀ p ∈ twoL fb l i j, chk p.1 = 0 ∧ chk p.2 = 0 ∧ nxB (-1) (p.1 ++ p.2) = true ∧ ∀ m, Wor m l → Hol m (tmOf p.1) (tmOf p.2) := by
  obtain ⟨hB, hB2⟩ := twoE_zero h
  have hri := hl.2 _ (nthR_mem hi)
  have hrj := hl.2 _ (nthR_mem hj)
  obtain ⟨a1, a2, a3, a4, a5, a6⟩ := ruleE_all hri
  rw [twoL, if_pos h, List.length_map]
  refine ⟨lapP_len .., fun e => ?_, fun p hp => ?_⟩
  · subst e; exact lapP_len0 _ _ (ne_of_chk a1) a5 _
  · obtain ⟨x, hx, rfl⟩ := List.mem_map.1 hp
    obtain ⟨θ, hθ, hc, hok⟩ := lap_right hfb hrj a1 hB hx
    have hc2 : chk (twoTo (nthR l i) x) = 0 := by
      have hlen : (twoTo (nthR l i) x).length ≤ 30 := by
        have := List.any_eq_false.1 hB2 x hx
        simpa using this
      have hsS : RightS x.2.1 := hθ.right
      refine chk_of hlen (signs_app hsS (signs_of_chk a2)) ?_
      obtain ⟨q1, q2⟩ := tm_chk a2
      have e : twoTo (nthR l i) x = ((tmOf (nthR l i).2).inst θ).flat := by
        unfold twoTo
        rw [hθ.sub, ← meetS_app q1 (fun s hs => (signs_of_chk a2 s (by rw [← q2]; exact hs)).1), q2]
      rw [e]
      exact need_tm (inst_ok hok q1)
    refine ⟨chk_smo hc, chk_smo2 hc hc2, ?_, fun m hm => ?_⟩
    · show nxB (-1) (smo [] x.2.2 ++ smo (seenA [] x.2.2) (twoTo (nthR l i) x)) = true
      rw [← smo_append]
      exact nx_smo _ []
    · obtain ⟨S, e1, e2⟩ := smo_two hc hc2
      show Hol m (tmOf (smo [] x.2.2)) (tmOf (smo (seenA [] x.2.2) (twoTo (nthR l i) x)))
      rw [e1, e2]
      refine Hol.inst ?_ _
      obtain ⟨q1, q2⟩ := tm_chk a2
      obtain ⟨k1, k2⟩ := tm_chk (ruleE_all hrj).2.1
      obtain ⟨g1, g2⟩ := tm_chk a1
      have ex : tmOf x.2.2 = ((tmOf (nthR l i).1).put x.1 (oth (tmOf (nthR l j).2))).inst θ := by
        rw [hθ.tz, tmOf_flat (inst_ok hok (put_ok g1 (oth_ok k1) (lt_tm a1 (lap_mem hx).1)))]
      have et : tmOf (twoTo (nthR l i) x) = (tmOf (nthR l i).2).inst θ := by
        unfold twoTo
        rw [hθ.sub]
        conv => lhs; rw [← q2]
        rw [meetS_app q1 (fun s hs => (signs_of_chk a2 s (by rw [← q2]; exact hs)).1), tmOf_flat (inst_ok hok q1)]
      rw [ex, et]
      exact lap_hol hθ a1 (lap_mem hx).1 (hm _ (nthR_mem hi)) (hm _ (nthR_mem hj))

end Go.Proofs.Ytepddehodmljeaa

namespace Go.Proofs.Ytepddehodmljeaa

/-- Rules, as trees. -/
def trl (l : Rus) : Rl := l.map fun p => (tmOf p.1, tmOf p.2)
theorem trl_mem {l : Rus} {a b : Tm} (h : (a, b) ∈ trl l) : ∃ n, n < l.length ∧ a = tmOf (nthR l n).1 ∧ b = tmOf (nthR l n).2 := by
  obtain ⟨p, hp, e⟩ := List.mem_map.1 h
  obtain ⟨n, hn, rfl⟩ := List.getElem_of_mem hp
  injection e with e1 e2
  exact ⟨n, hn, by rw [nthR_eq hn, e1], by rw [nthR_eq hn, e2]⟩
theorem mem_trl {l : Rus} {p : Ru} (h : p ∈ l) : (tmOf p.1, tmOf p.2) ∈ trl l := List.mem_map.2 ⟨p, h, rfl⟩

theorem sg_nth {t : List Int} (h : chk t = 0) : (tmOf t).sg = nth t 0 := by
  obtain ⟨h1, h2⟩ := tm_chk h
  obtain ⟨r, e⟩ := sg_flat (tmOf t)
  rw [h2] at e
  conv => rhs; rw [e]
  rfl

theorem falls_trl {r : List Int} {l : Rus} (hl : Rul l) (hF : fallsL r l = true) : Falls (rkF r) (trl l) where
  okl := fun a b h => by obtain ⟨n, hn, rfl, rfl⟩ := trl_mem h; exact (tm_chk (hl.chk hn).1).1
  okr := fun a b h => by obtain ⟨n, hn, rfl, rfl⟩ := trl_mem h; exact (tm_chk (hl.chk hn).2).1
  sg := fun a b h => by
    obtain ⟨n, hn, rfl, rfl⟩ := trl_mem h
    rw [sg_nth (hl.chk hn).1]
    exact (ruleE_all (hl.2 _ (nthR_mem hn))).2.2.2.2.1
  gt := fun a b h => by obtain ⟨n, hn, rfl, rfl⟩ := trl_mem h; exact fallsL_at hF hn
  var := fun a b h v hv h0 => by
    obtain ⟨n, hn, rfl, rfl⟩ := trl_mem h
    rw [(tm_chk (hl.chk hn).2).2] at hv
    rw [(tm_chk (hl.chk hn).1).2]
    exact rule_var (hl.2 _ (nthR_mem hn)) hv h0
  own := fun a b h v hv => by
    obtain ⟨n, hn, rfl, rfl⟩ := trl_mem h
    rw [(tm_chk (hl.chk hn).1).2] at hv
    have := List.all_eq_true.1 (ruleE_all (hl.2 _ (nthR_mem hn))).2.2.1 v hv
    simpa using this

/-- Each step of the code's is one. -/
theorem step_rw {l : Rus} {t : List Int} (hl : Rul l) (ht : chk t = 0) {s : Stp} (hs : s ∈ allP l t t.length) : Rw (trl l) (tmOf t) (tmOf s.2.2) := by
  obtain ⟨k, hk, n, hn, he⟩ := mem_all.1 hs
  obtain ⟨σ, hr, -, -, h1, h2⟩ := stp_tree hl ht hk hn he
  have hk' := lt_tm ht hk
  rw [h2]
  have := rw_put (.top (R := trl l) (sig σ) (mem_trl (nthR_mem hn)) (sig_ok hr)) (tmOf t) k hk'
  rw [← h1, put_sub hk'] at this
  exact this
theorem ofR_rt {l : Rus} (hl : Rul l) : ∀ (f n : Nat) (t x : List Int) (m : Nat), chk t = 0 → ofR l f n t = (x, m, 0) → Rt (trl l) (tmOf t) (tmOf x)
  | f, n, t, x, m, ht, h => by
    have hz := ofR_zero f n t x m h
    cases hs : stL l t with
    | nil =>
      rw [ofR_end hz hs] at h
      cases h
      exact .refl _
    | cons s r' =>
      cases f with
      | zero =>
        rw [ofR_many hz hs] at h
        have := congrArg (fun p => p.2.2) h
        simp at this
      | succ f =>
        rw [ofR_step hz hs] at h
        have hm : s ∈ stL l t := by rw [hs]; exact List.mem_cons_self ..
        have hc := step_chk' hl ht hz hm
        rw [(stL_of hz).1] at hm
        exact .step (step_rw hl ht hm) (ofR_rt hl f (n + 1) s.2.2 x m hc h)

/-- Where a step goes. -/
theorem rw_place {R : Rl} {a b : Tm} (h : Rw R a b) : ∃ k l r σ, k < a.size ∧ (l, r) ∈ R ∧ OkS σ ∧ a.sub k = l.inst σ ∧ b = a.put k (r.inst σ) := by
  induction h with
  | top σ hm hσ => exact ⟨0, _, _, σ, size_pos _, hm, hσ, sub_zero _, (put_zero _ _).symm⟩
  | un s _ ih =>
    obtain ⟨k, l, r, σ, h1, h2, h3, h4, h5⟩ := ih
    exact ⟨k + 1, l, r, σ, by simp [Tm.size]; omega, h2, h3, h4, by rw [h5]; rfl⟩
  | @left a b s c _ ih =>
    obtain ⟨k, l, r, σ, h1, h2, h3, h4, h5⟩ := ih
    refine ⟨k + 1, l, r, σ, by simp [Tm.size]; omega, h2, h3, ?_, ?_⟩
    · show (if k < a.size then a.sub k else _) = _
      rw [if_pos h1]; exact h4
    · show _ = if k < a.size then _ else _
      rw [if_pos h1, h5]
  | @right a b s c _ ih =>
    obtain ⟨k, l, r, σ, h1, h2, h3, h4, h5⟩ := ih
    have hk : ¬ c.size + k < c.size := by omega
    refine ⟨c.size + k + 1, l, r, σ, by simp [Tm.size]; omega, h2, h3, ?_, ?_⟩
    · show (if c.size + k < c.size then _ else a.sub (c.size + k - c.size)) = _
      rw [if_neg hk, Nat.add_sub_cancel_left]; exact h4
    · show _ = if c.size + k < c.size then _ else Tm.bin s c (a.put (c.size + k - c.size) _)
      rw [if_neg hk, Nat.add_sub_cancel_left, h5]

/-- A rule that fits somewhere: the code has a step. -/
theorem step_of_rw {l : Rus} {t : List Int} (hl : Rul l) (ht : chk t = 0) {k n : Nat} {σ : Int → Tm} (hk : k < t.length) (hn : n < l.length) (h : (tmOf t).sub k = (tmOf (nthR l n).1).inst σ) :
    ∃ s, stp l t k n = some s ∧ s ∈ allP l t t.length ∧ s.1 = n ∧ s.2.1 = k := by
  have hk' := lt_tm ht hk
  have hpa : tmOf (paT t k) = (tmOf t).sub k := by
    have h3 := (sub_flat ht hk)
    rw [← h3.2.1, tmOf_flat h3.1]
  obtain ⟨bl, h1, -⟩ := fitM_complete σ (tmOf (nthR l n).1) ((tmOf t).sub k) [] (tm_chk (hl.chk hn).1).1 h.symm (fun v x e => by cases e)
  have h2 : fitL (nthR l n).1 (paT t k) = some (outS bl) := by unfold fitL; rw [hpa, h1]; rfl
  have h3 : stp l t k n = some (n, k, puT t k (app (outS bl) (nthR l n).2)) := by unfold stp; rw [h2]; rfl
  exact ⟨_, h3, mem_all.2 ⟨k, hk, n, hn, h3⟩, rfl, rfl⟩
theorem nf_of {l : Rus} {t : List Int} (hl : Rul l) (ht : chk t = 0) (hz : stE l t = 0) (he : stL l t = []) : Nf (trl l) (tmOf t) := by
  intro b hb
  obtain ⟨k, a, r, σ, h1, h2, -, h4, -⟩ := rw_place hb
  obtain ⟨n, hn, rfl, rfl⟩ := trl_mem h2
  rw [← size_flat, (tm_chk ht).2] at h1
  obtain ⟨s, -, hs, -⟩ := step_of_rw hl ht h1 hn h4
  rw [← (stL_of hz).1, he] at hs
  cases hs

theorem tm_inj {a b : List Int} (ha : chk a = 0) (hb : chk b = 0) (h : tmOf a = tmOf b) : a = b := by
  rw [← (tm_chk ha).2, h, (tm_chk hb).2]

/-- Whatever is reached has one form. -/
theorem one_form {r : List Int} {l : Rus} (hr : rankE r = 0) (hl : Rul l) (hF : fallsL r l = true) (hP : Peaks (rkF r) (trl l)) {a b c x y : List Int} {n m : Nat} {i j : Nat} (ha : chk a = 0) (hb : chk b = 0) (hc : (tmOf c).ok)
    (h1 : Rt (trl l) (tmOf c) (tmOf a)) (h2 : Rt (trl l) (tmOf c) (tmOf b)) (hx : ofR l 60 i a = (x, n, 0)) (hy : ofR l 60 j b = (y, m, 0)) : x = y := by
  have hX := ofR_rt hl _ _ _ _ _ ha hx
  have hY := ofR_rt hl _ _ _ _ _ hb hy
  have cx := ofR_chk hl _ _ _ _ _ ha hx
  have cy := ofR_chk hl _ _ _ _ _ hb hy
  obtain ⟨z1, z2⟩ := ofR_last _ _ _ _ _ hx
  obtain ⟨z3, z4⟩ := ofR_last _ _ _ _ _ hy
  have nx := nf_of hl cx z1 z2
  have ny := nf_of hl cy z3 z4
  obtain ⟨d, d1, d2⟩ := conf_of_peaks (rank_nonneg hr) (falls_trl hl hF) hP hc (h1.trans hX) (h2.trans hY)
  exact tm_inj cx cy ((d1.nf nx).symm.trans (d2.nf ny))

theorem rt_inst {rk : Int → Int} {R : Rl} (hF : Falls rk R) {a b : Tm} (h : Rt R a b) {θ : Int → Tm} (hθ : OkS θ) : a.ok → Rt R (a.inst θ) (b.inst θ) := by
  induction h with
  | refl => exact fun _ => .refl _
  | step h _ ih => exact fun ho => .step (rw_inst' hθ h ho) (ih (h.down hF ho).2)

/-- What had one form has one, whatever variables become. -/
theorem same_form {r : List Int} {l : Rus} (hr : rankE r = 0) (hl : Rul l) (hF : fallsL r l = true) (hP : Peaks (rkF r) (trl l)) {p q c a b x y : List Int} {n m n' m' : Nat} {θ : Int → Tm} (hθ : OkS θ) (hp : chk p = 0) (hq : chk q = 0) (ha : chk a = 0) (hb : chk b = 0)
    (h1 : ofR l 60 0 p = (c, n, 0)) (h2 : ofR l 60 0 q = (c, m, 0)) (ea : tmOf a = (tmOf p).inst θ) (eb : tmOf b = (tmOf q).inst θ) (hx : ofR l 60 0 a = (x, n', 0)) (hy : ofR l 60 0 b = (y, m', 0)) : x = y := by
  have hT := falls_trl hl hF
  have hX := ofR_rt hl _ _ _ _ _ ha hx
  have hY := ofR_rt hl _ _ _ _ _ hb hy
  have cx := ofR_chk hl _ _ _ _ _ ha hx
  have cy := ofR_chk hl _ _ _ _ _ hb hy
  obtain ⟨z1, z2⟩ := ofR_last _ _ _ _ _ hx
  obtain ⟨z3, z4⟩ := ofR_last _ _ _ _ _ hy
  have nx := nf_of hl cx z1 z2
  have ny := nf_of hl cy z3 z4
  have k1 := rt_inst hT (ofR_rt hl _ _ _ _ _ hp h1) hθ (tm_chk hp).1
  have k2 := rt_inst hT (ofR_rt hl _ _ _ _ _ hq h2) hθ (tm_chk hq).1
  rw [← ea] at k1
  rw [← eb] at k2
  obtain ⟨d, d1, d2⟩ := conf_of_peaks (rank_nonneg hr) hT hP (tm_chk ha).1 k1 hX
  obtain ⟨f, f1, f2⟩ := conf_of_peaks (rank_nonneg hr) hT hP (tm_chk hb).1 k2 hY
  have e1 := d2.nf nx
  have e2 := f2.nf ny
  subst e1 e2
  have hco : ((tmOf c).inst θ).ok := inst_ok hθ (tm_chk (ofR_chk hl _ _ _ _ _ hp h1)).1
  obtain ⟨g, g1, g2⟩ := conf_of_peaks (rank_nonneg hr) hT hP hco d1 f1
  exact tm_inj cx cy ((g1.nf nx).symm.trans (g2.nf ny))

/-! ### Pairs that are joined everywhere below -/
theorem put_inst_same {θ : Int → Tm} {u : Tm} : ∀ {x : Tm} {k : Nat}, k < x.size → (x.sub k).inst θ = u.inst θ → (x.put k u).inst θ = x.inst θ
  | x, 0, _, h => by rw [put_zero, ← h, sub_zero]
  | .leaf s, k + 1, hk, _ => by simp [Tm.size] at hk
  | .un s a, k + 1, hk, h => by
    have h' : (a.sub k).inst θ = u.inst θ := h
    show Tm.un s ((a.put k u).inst θ) = Tm.un s _
    rw [put_inst_same (by simp [Tm.size] at hk; omega) h']
  | .bin s a b, k + 1, hk, h => by
    have h' : (if k < a.size then a.sub k else b.sub (k - a.size)).inst θ = u.inst θ := h
    show (if k < a.size then Tm.bin s (a.put k u) b else Tm.bin s a (b.put (k - a.size) u)).inst θ = _
    by_cases hka : k < a.size
    · rw [if_pos hka] at h' ⊢
      show Tm.bin s ((a.put k u).inst θ) _ = Tm.bin s _ _
      rw [put_inst_same hka h']
    · rw [if_neg hka] at h' ⊢
      show Tm.bin s _ ((b.put (k - a.size) u).inst θ) = Tm.bin s _ _
      rw [put_inst_same (by simp [Tm.size] at hk; omega) h']

/-- All pairs of two rules are joined below. -/
def CpGd (rk : Int → Int) (F : Rl) (ri rj : Ru) : Prop := ∀ k θ, k < (tmOf ri.1).size → 0 ≤ ((tmOf ri.1).sub k).sg → ¬ (k = 0 ∧ ri = rj) → OkS θ → ((tmOf ri.1).sub k).inst θ = (oth (tmOf rj.1)).inst θ →
  Gd rk F (((tmOf ri.1).put k (oth (tmOf rj.2))).inst θ) ((tmOf ri.2).inst θ)

theorem Gd.conn {rk : Int → Int} {F : Rl} {a b u : Tm} (h : Gd rk F a b) (ha : a.ok) (hb : b.ok) (h1 : gt rk u a = true) (h2 : gt rk u b = true) : Conn rk F u a b := by
  have := h (.leaf 0) 0 .leaf u (by show ar 0 = 0; decide) (by simp [Tm.size]) (fun v hv => by show ar v = 0; exact ar_neg hv)
  rw [put_zero, put_zero, inst_self _ ha, inst_self _ hb] at this
  exact this h1 h2

theorem cps_of {r : List Int} {l : Rus} (hl : Rul l) (hF : fallsL r l = true) (h : ∀ i j, i < l.length → j < l.length → CpGd (rkF r) (trl l) (nthR l i) (nthR l j)) : CPs (rkF r) (trl l) := by
  intro l1 r1 l2 r2 k θ m1 m2 hk h0 hne hθ hs
  have hT := falls_trl hl hF
  obtain ⟨i, hi, rfl, rfl⟩ := trl_mem m1
  obtain ⟨j, hj, rfl, rfl⟩ := trl_mem m2
  have hg := h i j hi hj k θ hk h0 (fun ⟨e1, e2⟩ => hne ⟨e1, by rw [e2]⟩) hθ hs
  have o1 := hT.okl _ _ m1
  have o2 := hT.okr _ _ m2
  have o3 := put_ok o1 (oth_ok o2) hk
  refine hg.conn (inst_ok hθ o3) (inst_ok hθ (hT.okr _ _ m1)) ?_ (gt_inst θ (hT.gt _ _ m1))
  have e := put_inst_same (θ := θ) hk hs
  rw [← e]
  exact gt_inst θ (gt_put (gt_inst _ (hT.gt _ _ m2)) _ _ o1 hk)

/-! ### Pairs of the code's -/
def inv (S : List Int) : Int → Tm := fun v => .leaf (S.getD (-1 - v).toNat (-1))
theorem inv_ok {S : List Int} (hS : ∀ x ∈ S, x < 0) : OkS (inv S) := fun v _ => by
  show ar (S.getD (-1 - v).toNat (-1)) = 0
  by_cases h : (-1 - v).toNat < S.length
  · rw [List.getD, List.getElem?_eq_getElem h]
    exact ar_neg (hS _ (List.getElem_mem h))
  · rw [List.getD, List.getElem?_eq_none (by omega)]
    exact ar_neg (by decide)
theorem inv_ren {S : List Int} {x : Tm} (hx : x.ok) (h : ∀ v ∈ x.flat, v < 0 → v ∈ S) : (x.inst fun v => .leaf (ren S v)).inst (inv S) = x := by
  rw [inst_inst]
  have : x.inst (fun v => (Tm.leaf (ren S v)).inst (inv S)) = x.inst .leaf := inst_congr fun v hv h0 => by
    have hi : S.idxOf v < S.length := List.idxOf_lt_length_of_mem (h v hv h0)
    have e : ren S v = -1 - (S.idxOf v : Int) := if_neg (by omega)
    rw [e]
    have e2 : (Tm.leaf (-1 - (S.idxOf v : Int))).inst (inv S) = inv S (-1 - (S.idxOf v : Int)) := if_pos (by omega)
    rw [e2, inv, show (-1 - (-1 - (S.idxOf v : Int))).toNat = S.idxOf v by omega, List.getD, List.getElem?_eq_getElem hi, Option.getD_some, List.getElem_idxOf]
  rw [this, inst_self _ hx]
theorem seenA_has : ∀ (t seen : List Int) {v : Int}, v < 0 → (v ∈ seen ∨ v ∈ t) → v ∈ seenA seen t
  | [], seen, v, _, h => by
    rcases h with h | h
    · exact h
    · cases h
  | n :: t, seen, v, hv, h => by
    show v ∈ seenA (adds seen n) t
    refine seenA_has t _ hv ?_
    obtain ⟨e, he⟩ := adds_pre seen n
    rcases h with h | h
    · exact .inl (by rw [he]; simp [h])
    · rcases List.mem_cons.1 h with rfl | h
      · exact .inl (adds_mem hv)
      · exact .inr h
/-- Two terms made plain: what both become by one renaming, and back. -/
theorem smo_two' {a b : List Int} (ha : chk a = 0) (hb : chk b = 0) : ∃ S : List Int, (∀ x ∈ S, x < 0) ∧ tmOf (smo [] a) = (tmOf a).inst (fun v => .leaf (ren S v)) ∧ tmOf (smo (seenA [] a) b) = (tmOf b).inst (fun v => .leaf (ren S v)) ∧
    (tmOf (smo [] a)).inst (inv S) = tmOf a ∧ (tmOf (smo (seenA [] a) b)).inst (inv S) = tmOf b := by
  obtain ⟨e, he⟩ := seenA_pre b (seenA [] a)
  obtain ⟨h1, h2⟩ := tm_chk ha
  obtain ⟨k1, k2⟩ := tm_chk hb
  have e1 : tmOf (smo [] a) = (tmOf a).inst fun v => .leaf (ren (seenA (seenA [] a) b) v) := by
    rw [smo_ren a [] e, ← he, ← tmOf_flat (ren_ok _ h1), ren_flat _ _ h1, h2]
  have e2 : tmOf (smo (seenA [] a) b) = (tmOf b).inst fun v => .leaf (ren (seenA (seenA [] a) b) v) := by
    rw [smo_ren b (seenA [] a) [], List.append_nil, ← tmOf_flat (ren_ok _ k1), ren_flat _ _ k1, k2]
  refine ⟨seenA (seenA [] a) b, seenA_neg (seenA_neg (fun x hx => by cases hx) a) b, e1, e2, ?_, ?_⟩
  · rw [e1]
    refine inv_ren h1 fun v hv h0 => ?_
    rw [h2] at hv
    exact seenA_has b _ h0 (.inl (seenA_has a [] h0 (.inr hv)))
  · rw [e2]
    refine inv_ren k1 fun v hv h0 => ?_
    rw [k2] at hv
    exact seenA_has b _ h0 (.inr hv)

/-- Where two terms can be made the same there is a lap. -/
theorem lap_found {fb : Fb} (hfb : FbOk fb) {r : Ru} (hr : ruleE r = 0) {t : List Int} (ht : chk t = 0) {ps : Nat → Bool} (hB : lapsB fb r t ps = false) {k : Nat} (hk : k < t.length) (h0 : 0 ≤ nth t k) (hps : ps k = false) {θ : Int → Tm}
    (h : ((tmOf t).sub k).inst θ = (oth (tmOf r.1)).inst θ) : ∃ x ∈ lapP fb r t ps t.length, x.1 = k := by
  have hS := lap_solve hfb hr ht hk
  have hb := List.any_eq_false.1 hB k (List.mem_range.2 hk)
  have hg : (decide (nth t k < 0) || ps k) = false := by rw [hps, decide_eq_false (by omega)]; rfl
  have hyes : (lapX fb r t k).2.1 = true := by
    rcases hS with ⟨-, -, -, hn⟩ | ⟨τ, -, -, ⟨-, -, e, -⟩ | ⟨-, -, -, e⟩⟩
    · exact absurd (fun p hp => by simp at hp; subst hp; exact h) (hn θ)
    · exact e
    · refine absurd ?_ hb
      unfold lapB
      rw [hg, e]; rfl
  refine ⟨(k, (lapX fb r t k).1, lapTo fb r t k), List.mem_filterMap.2 ⟨k, List.mem_range.2 hk, ?_⟩, rfl⟩
  unfold lapO
  rw [if_neg (by rw [hg]; decide), if_pos hyes]

theorem two_chk {fb : Fb} (hfb : FbOk fb) {l : Rus} (hl : Rul l) {i j : Nat} (hi : i < l.length) (hj : j < l.length) (h : twoE fb l i j = 0) {x : Lp} (hx : x ∈ lapsIJ fb l i j) :
    ∃ θ, LapIs (nthR l j) (nthR l i).1 x.1 x.2.1 x.2.2 θ ∧ OkS θ ∧ chk x.2.2 = 0 ∧ chk (twoTo (nthR l i) x) = 0 ∧ tmOf x.2.2 = ((tmOf (nthR l i).1).put x.1 (oth (tmOf (nthR l j).2))).inst θ ∧ tmOf (twoTo (nthR l i) x) = (tmOf (nthR l i).2).inst θ := by
  obtain ⟨hB, hB2⟩ := twoE_zero h
  have hri := hl.2 _ (nthR_mem hi)
  have hrj := hl.2 _ (nthR_mem hj)
  obtain ⟨a1, a2, a3, a4, a5, a6⟩ := ruleE_all hri
  obtain ⟨θ, hθ, hc, hok⟩ := lap_right hfb hrj a1 hB hx
  obtain ⟨q1, q2⟩ := tm_chk a2
  obtain ⟨k1, k2⟩ := tm_chk (ruleE_all hrj).2.1
  obtain ⟨g1, g2⟩ := tm_chk a1
  have e : twoTo (nthR l i) x = ((tmOf (nthR l i).2).inst θ).flat := by
    unfold twoTo
    rw [hθ.sub, ← meetS_app q1 (fun s hs => (signs_of_chk a2 s (by rw [← q2]; exact hs)).1), q2]
  have hc2 : chk (twoTo (nthR l i) x) = 0 := by
    have hlen : (twoTo (nthR l i) x).length ≤ 30 := by
      have := List.any_eq_false.1 hB2 x hx
      simpa using this
    have hsS : RightS x.2.1 := hθ.right
    refine chk_of hlen (signs_app hsS (signs_of_chk a2)) ?_
    rw [e]
    exact need_tm (inst_ok hok q1)
  refine ⟨θ, hθ, hok, hc, hc2, ?_, by rw [e, tmOf_flat (inst_ok hok q1)]⟩
  rw [hθ.tz, tmOf_flat (inst_ok hok (put_ok g1 (oth_ok k1) (lt_tm a1 (lap_mem hx).1)))]

theorem cpGd_of {rk : Int → Int} {F : Rl} {fb : Fb} (hfb : FbOk fb) {l : Rus} (hl : Rul l) {i j : Nat} (hi : i < l.length) (hj : j < l.length) (h : twoE fb l i j = 0) (hp : ∀ p ∈ twoL fb l i j, Gd rk F (tmOf p.1) (tmOf p.2)) :
    CpGd rk F (nthR l i) (nthR l j) := by
  intro k θ hk h0 hne hθ hs
  have hrj := hl.2 _ (nthR_mem hj)
  have a1 := (hl.chk hi).1
  have hk' : k < (nthR l i).1.length := by rw [← (tm_chk a1).2, size_flat]; exact hk
  have hn0 : 0 ≤ nth (nthR l i).1 k := by
    have := sub_sg hk
    rw [(tm_chk a1).2] at this
    rw [this]; exact h0
  have hps : psX i j k = false := by
    unfold psX
    by_cases e : i = j
    · subst e
      rw [decide_eq_false fun e => hne ⟨e, rfl⟩, Bool.and_false]
    · rw [decide_eq_false e, Bool.false_and]
  obtain ⟨x, hx, hxk⟩ := lap_found hfb hrj a1 (twoE_zero h).1 hk' hn0 hps hs
  obtain ⟨θ0, hL, hok, c1, c2, e1, e2⟩ := two_chk hfb hl hi hj h hx
  obtain ⟨S, hS, -, -, b1, b2⟩ := smo_two' c1 c2
  have hmem : twoPr (nthR l i) x ∈ twoL fb l i j := by rw [twoL, if_pos h]; exact List.mem_map.2 ⟨x, hx, rfl⟩
  have hg := (hp _ hmem).inst (inv_ok hS)
  have hg1 : Gd rk F (tmOf x.2.2) (tmOf (twoTo (nthR l i) x)) := by
    have f1 : (tmOf (twoPr (nthR l i) x).1).inst (inv S) = tmOf x.2.2 := b1
    have f2 : (tmOf (twoPr (nthR l i) x).2).inst (inv S) = tmOf (twoTo (nthR l i) x) := b2
    rw [f1, f2] at hg
    exact hg
  have hg2 := hg1.inst hθ
  rw [e1, e2, hxk, inst_inst, inst_inst] at hg2
  have hm : ∀ v, v < 0 → (θ0 v).inst θ = θ v := by
    refine hL.mgu.most θ fun p hp => ?_
    rw [hxk] at hp
    simp at hp; subst hp; exact hs
  have f3 : ∀ y : Tm, y.inst (fun v => (θ0 v).inst θ) = y.inst θ := fun y => inst_congr fun v _ hv => hm v hv
  rw [f3, f3] at hg2
  exact hg2

/-! ### All pairs -/
def evL (fb : Fb) (l : Rus) (n : Nat) : List Ru := (List.range n).flatMap fun i => (List.range l.length).flatMap fun j => twoL fb l i j
def evB (fb : Fb) (l : Rus) : Bool := (List.range l.length).any fun i => (List.range l.length).any fun j => decide (twoE fb l i j ≠ 0)
def evE (fb : Fb) (l : Rus) : Int := if evB fb l = true then 2 else if 40 < (evL fb l l.length).length then 2 else 0
/-- Does a right pair meet? -/
def mtB (l : Rus) (p : Ru) : Bool := decide ((ofR l 60 0 p.1).1 = (ofR l 60 0 p.2).1)
def mtE (l : Rus) (p : Ru) : Int := if (ofR l 60 0 p.1).2.2 ≠ 0 then (ofR l 60 0 p.1).2.2 else (ofR l 60 0 p.2).2.2
def mtR (l : Rus) (p : Ru) : Bool := decide (mtE l p = 0) && mtB l p
def allR (l : Rus) : List Ru → Bool × Int
  | [] => (true, 0)
  | p :: ps => if mtE l p = 0 ∧ mtB l p = true then allR l ps else (false, mtE l p)
def jnE (fb : Fb) (l : Rus) : Int := if rulesE l ≠ 0 then rulesE l else if evE fb l ≠ 0 then evE fb l else (allR l (evL fb l l.length)).2
def jnB (fb : Fb) (l : Rus) : Bool := decide (rulesE l = 0) && decide (evE fb l = 0) && (allR l (evL fb l l.length)).1

theorem allR_yes {l : Rus} : ∀ {ps : List Ru}, (allR l ps).1 = true ↔ ∀ p ∈ ps, mtE l p = 0 ∧ mtB l p = true
  | [] => by simp [allR]
  | p :: ps => by
    unfold allR
    by_cases h : mtE l p = 0 ∧ mtB l p = true
    · rw [if_pos h, allR_yes]; simp [h]
    · rw [if_neg h]
      simp only [Bool.false_eq_true, false_iff]
      exact fun k => h (k p (List.mem_cons_self ..))
theorem mt_both {l : Rus} {p : Ru} (h : mtE l p = 0) (hb : mtB l p = true) : ∃ c n m, ofR l 60 0 p.1 = (c, n, 0) ∧ ofR l 60 0 p.2 = (c, m, 0) := by
  unfold mtE at h
  unfold mtB at hb
  have hb := of_decide_eq_true hb
  split at h
  · contradiction
  · rename_i h1
    have h1 : (ofR l 60 0 p.1).2.2 = 0 := by simpa using h1
    refine ⟨(ofR l 60 0 p.1).1, (ofR l 60 0 p.1).2.1, (ofR l 60 0 p.2).2.1, ?_, ?_⟩
    · rw [← h1]
    · rw [hb, ← h]
theorem evE_zero {fb : Fb} {l : Rus} (h : evE fb l = 0) : (∀ i j, i < l.length → j < l.length → twoE fb l i j = 0) ∧ ∀ i j, i < l.length → j < l.length → ∀ p ∈ twoL fb l i j, p ∈ evL fb l l.length := by
  unfold evE at h
  split at h
  · omega
  · rename_i h1
    refine ⟨fun i j hi hj => ?_, fun i j hi hj p hp => List.mem_flatMap.2 ⟨i, List.mem_range.2 hi, List.mem_flatMap.2 ⟨j, List.mem_range.2 hj, hp⟩⟩⟩
    have h1 : evB fb l = false := by simpa using h1
    have h2 := List.any_eq_false.1 h1 i (List.mem_range.2 hi)
    have h3 : ((List.range l.length).any fun j => decide (twoE fb l i j ≠ 0)) = false := by simpa using h2
    have h4 := List.any_eq_false.1 h3 j (List.mem_range.2 hj)
    simpa using h4

/-- Rules that fall and of which all pairs meet: no peak is left. -/
theorem peaks_all {fb : Fb} (hfb : FbOk fb) {r : List Int} {l : Rus} (hl : Rul l) (hF : fallsL r l = true) (hE : evE fb l = 0) (hA : ∀ p ∈ evL fb l l.length, mtE l p = 0 ∧ mtB l p = true) : Peaks (rkF r) (trl l) := by
  have hT := falls_trl hl hF
  obtain ⟨h1, h2⟩ := evE_zero hE
  refine peaks_of hT (cps_of hl hF fun i j hi hj => cpGd_of hfb hl hi hj (h1 i j hi hj) fun p hp => ?_)
  obtain ⟨m1, m2⟩ := hA p (h2 i j hi hj p hp)
  obtain ⟨c, n, m, o1, o2⟩ := mt_both m1 m2
  obtain ⟨-, -, hc⟩ := pairs_model hfb hl hi hj (h1 i j hi hj)
  obtain ⟨q1, q2, -⟩ := hc p hp
  have hR : GdAll (rkF r) (trl l) (trl l) := fun a b h => gd_rule hT h
  exact gd_pair hT hR (tm_chk q1).1 (tm_chk q2).1 (ofR_rt hl _ _ _ _ _ q1 o1) (ofR_rt hl _ _ _ _ _ q2 o2) (.refl (tm_chk (ofR_chk hl _ _ _ _ _ q1 o1)).1)

end Go.Proofs.Ytepddehodmljeaa

namespace Go.Proofs.Ytepddehodmljeaa

/-! ### As the code does it -/
def ovB (x rr : Ru) : Bool := !(ovr x.1 rr.1 x.1.length).isEmpty
def stayL (l : Rus) (rr : Ru) : Rus := l.filter fun x => !ovB x rr
def goneL (l : Rus) (rr : Ru) : List Ru := l.filter fun x => ovB x rr
def newL (l : Rus) (rr : Ru) : Rus := stayL l rr ++ [rr]
def waysK (n k : Nat) : List (Nat × Nat) := (List.range k).flatMap fun k => [(k, n), (n, k)]
def waysL (n : Nat) : List (Nat × Nat) := waysK n n ++ [(n, n)]
def wayP (fb : Fb) (l : Rus) (ws : List (Nat × Nat)) : List Ru := ws.flatMap fun w => twoL fb l w.1 w.2
def wayB (fb : Fb) (l : Rus) (ws : List (Nat × Nat)) : Bool := ws.any fun w => decide (twoE fb l w.1 w.2 ≠ 0)
def addP (fb : Fb) (l : Rus) (e : List Ru) (rr : Ru) : List Ru := (e ++ goneL l rr) ++ wayP fb (newL l rr) (waysL (stayL l rr).length)
def addE (fb : Fb) (l : Rus) (e : List Ru) (rr : Ru) : Int :=
  if 8 < (newL l rr).length then 2 else if wayB fb (newL l rr) (waysL (stayL l rr).length) = true then 2 else if 40 < (addP fb l e rr).length then 2 else 0
def smR (a b : List Int) : Ru := (smo [] a, smo (seenA [] a) b)
abbrev Shp := Int × Rus × List Ru
def putR (fb : Fb) (l : Rus) (e : List Ru) (rr : Ru) : Shp :=
  if (ownB rr.1 && ownB rr.2) = true then (if addE fb l e rr = 0 then (0, newL l rr, addP fb l e rr) else (addE fb l e rr, [], [])) else (3, [], [])
def turnV (fb : Fb) (r : List Int) (l : Rus) (p : Ru) (e : List Ru) : Shp :=
  if mtE l p = 0 then (if mtB l p = true then (0, l, e)
    else if gt (rkF r) (tmOf (ofR l 60 0 p.1).1) (tmOf (ofR l 60 0 p.2).1) = true then putR fb l e (smR (ofR l 60 0 p.1).1 (ofR l 60 0 p.2).1)
    else if gt (rkF r) (tmOf (ofR l 60 0 p.2).1) (tmOf (ofR l 60 0 p.1).1) = true then putR fb l e (smR (ofR l 60 0 p.2).1 (ofR l 60 0 p.1).1)
    else (6, [], [])) else (mtE l p, [], [])
/-- Turn by turn; f: how many are left. -/
def runV (fb : Fb) (r : List Int) : Nat → Nat → Rus → List Ru → Rus × Nat × Int
  | _, n, l, [] => (l, n, 0)
  | 0, _, _, _ :: _ => ([], 0, 2)
  | f + 1, n, l, p :: e => if (turnV fb r l p e).1 = 0 then runV fb r f (n + 1) (turnV fb r l p e).2.1 (turnV fb r l p e).2.2 else ([], 0, (turnV fb r l p e).1)

/-! ### What holds of it -/
def EqsOk (e : List Ru) : Prop := ∀ p ∈ e, chk p.1 = 0 ∧ chk p.2 = 0
structure Inv (r : List Int) (l : Rus) (e : List Ru) : Prop where
  rank : rankE r = 0
  rul : Rul l
  fl : fallsL r l = true
  eqs : EqsOk e

theorem gt_sg {rk : Int → Int} {a b : Tm} (ha : a.ok) (h : gt rk a b = true) : 0 ≤ a.sg := by
  cases a with
  | leaf s =>
    rcases (gt_iff _ _).1 h with ⟨p, hp, -⟩ | ⟨h0, -⟩
    · cases hp
    · exact h0
  | un s a => have h1 := ar_pos (s := s) (by rw [ha.1]; decide); show 0 ≤ s; omega
  | bin s a b => have h1 := ar_pos (s := s) (by rw [ha.1]; decide); show 0 ≤ s; omega
theorem parts_flat {a p : Tm} (h : p ∈ a.parts) : ∀ v ∈ p.flat, v ∈ a.flat := by
  intro v hv
  cases a with
  | leaf s => cases h
  | un s a => simp [Tm.parts] at h; subst h; simp [Tm.flat, hv]
  | bin s a b => simp [Tm.parts] at h; rcases h with rfl | rfl <;> simp [Tm.flat, hv]
theorem flat_sg_parts {b : Tm} : ∀ v ∈ b.flat, v = b.sg ∨ ∃ q ∈ b.parts, v ∈ q.flat := by
  intro v hv
  cases b with
  | leaf s => simp [Tm.flat] at hv; exact .inl hv
  | un s a =>
    simp [Tm.flat] at hv
    rcases hv with rfl | hv
    · exact .inl rfl
    · exact .inr ⟨a, by simp [Tm.parts], hv⟩
  | bin s a b =>
    simp [Tm.flat] at hv
    rcases hv with rfl | hv | hv
    · exact .inl rfl
    · exact .inr ⟨a, by simp [Tm.parts], hv⟩
    · exact .inr ⟨b, by simp [Tm.parts], hv⟩
theorem gt_var_n {rk : Int → Int} : ∀ (n : Nat) (a b : Tm), a.size + b.size ≤ n → gt rk a b = true → ∀ v ∈ b.flat, v < 0 → v ∈ a.flat
  | 0, a, _, hn, _, _, _, _ => by have := size_pos a; omega
  | n + 1, a, b, hn, h, v, hv, h0 => by
    rcases (gt_iff a b).1 h with ⟨p, hp, rfl | hg⟩ | ⟨-, h2, h3, -⟩
    · exact parts_flat hp v hv
    · have := size_part hp
      exact parts_flat hp v (gt_var_n n p b (by omega) hg v hv h0)
    · rcases flat_sg_parts v hv with rfl | ⟨q, hq, hvq⟩
      · omega
      · have := size_part hq
        exact gt_var_n n a q (by omega) (h3 q hq) v hvq h0
theorem gt_var {rk : Int → Int} {a b : Tm} (h : gt rk a b = true) : ∀ v ∈ b.flat, v < 0 → v ∈ a.flat := gt_var_n _ a b (Nat.le_refl _) h

theorem ruleE_of {rr : Ru} (h1 : chk rr.1 = 0) (h2 : chk rr.2 = 0) (h3 : (ownB rr.1 && ownB rr.2) = true) (h4 : 0 ≤ nth rr.1 0) (h5 : ∀ v ∈ rr.2, v < 0 → v ∈ rr.1) : ruleE rr = 0 := by
  have hc : chk2 rr.1 rr.2 = 0 := by rw [chk2, if_pos h1, h2]
  have hf : ¬ freeB rr.1 rr.2 = true := by
    rw [Bool.not_eq_true]
    refine List.any_eq_false.2 fun v hv => ?_
    by_cases h0 : v < 0
    · rw [hasB_yes (h5 v hv h0)]; simp
    · rw [decide_eq_false h0]; simp
  rw [ruleE, if_pos hc, if_pos h3, if_neg (by omega), if_neg hf]

/-- A new rule is right, and falls. -/
theorem smR_rule {r : List Int} {a b : List Int} (ha : chk a = 0) (hb : chk b = 0) (hg : gt (rkF r) (tmOf a) (tmOf b) = true) (ho : (ownB (smR a b).1 && ownB (smR a b).2) = true) :
    ruleE (smR a b) = 0 ∧ gt (rkF r) (tmOf (smR a b).1) (tmOf (smR a b).2) = true := by
  obtain ⟨S, hS, e1, e2, -, -⟩ := smo_two' ha hb
  have c1 : chk (smR a b).1 = 0 := chk_smo ha
  have c2 : chk (smR a b).2 = 0 := chk_smo2 ha hb
  have hgt : gt (rkF r) (tmOf (smR a b).1) (tmOf (smR a b).2) = true := by
    show gt (rkF r) (tmOf (smo [] a)) (tmOf (smo (seenA [] a) b)) = true
    rw [e1, e2]
    exact gt_inst _ hg
  refine ⟨ruleE_of c1 c2 ho ?_ ?_, hgt⟩
  · rw [← sg_nth c1]; exact gt_sg (tm_chk c1).1 hgt
  · intro v hv h0
    have := gt_var hgt v (by rw [(tm_chk c2).2]; exact hv) h0
    rw [(tm_chk c1).2] at this
    exact this

theorem stay_mem {l : Rus} {rr p : Ru} (h : p ∈ stayL l rr) : p ∈ l := (List.mem_filter.1 h).1
theorem gone_mem {l : Rus} {rr p : Ru} (h : p ∈ goneL l rr) : p ∈ l := (List.mem_filter.1 h).1
theorem stay_or {l : Rus} {p : Ru} (rr : Ru) (h : p ∈ l) : p ∈ stayL l rr ∨ p ∈ goneL l rr := by
  by_cases hb : ovB p rr = true
  · exact .inr (List.mem_filter.2 ⟨h, hb⟩)
  · exact .inl (List.mem_filter.2 ⟨h, by simpa using hb⟩)

theorem addE_zero {fb : Fb} {l : Rus} {e : List Ru} {rr : Ru} (h : addE fb l e rr = 0) : (newL l rr).length ≤ 8 ∧ (∀ w ∈ waysL (stayL l rr).length, twoE fb (newL l rr) w.1 w.2 = 0) ∧ (addP fb l e rr).length ≤ 40 := by
  unfold addE at h
  split at h
  · omega
  · split at h
    · omega
    · split at h
      · omega
      · rename_i h1 h2 h3
        refine ⟨by omega, fun w hw => ?_, by omega⟩
        have h2 : wayB fb (newL l rr) (waysL (stayL l rr).length) = false := by simpa using h2
        simpa using List.any_eq_false.1 h2 w hw
theorem ways_lt {n : Nat} {w : Nat × Nat} (h : w ∈ waysL n) : w.1 < n + 1 ∧ w.2 < n + 1 := by
  rcases List.mem_append.1 h with h | h
  · obtain ⟨k, hk, h⟩ := List.mem_flatMap.1 h
    have := List.mem_range.1 hk
    simp at h
    rcases h with rfl | rfl <;> constructor <;> dsimp only <;> omega
  · simp at h; subst h; exact ⟨by simp, by simp⟩
theorem ways_all {n i j : Nat} (hi : i < n + 1) (hj : j < n + 1) (h : i = n ∨ j = n) : (i, j) ∈ waysL n := by
  by_cases e : i = n ∧ j = n
  · obtain ⟨rfl, rfl⟩ := e; exact List.mem_append.2 (.inr (by simp))
  · refine List.mem_append.2 (.inl ?_)
    rcases h with rfl | rfl
    · exact List.mem_flatMap.2 ⟨j, List.mem_range.2 (by omega), by simp⟩
    · exact List.mem_flatMap.2 ⟨i, List.mem_range.2 (by omega), by simp⟩

/-- What a turn comes to. -/
inductive TurnIs (fb : Fb) (r : List Int) (l : Rus) (p : Ru) (e : List Ru) : Rus → List Ru → Prop
  | same (a : List Int) (n m : Nat) : ofR l 60 0 p.1 = (a, n, 0) → ofR l 60 0 p.2 = (a, m, 0) → TurnIs fb r l p e l e
  | new (a b : List Int) (n m : Nat) : ((ofR l 60 0 p.1 = (a, n, 0) ∧ ofR l 60 0 p.2 = (b, m, 0)) ∨ (ofR l 60 0 p.1 = (b, n, 0) ∧ ofR l 60 0 p.2 = (a, m, 0))) → gt (rkF r) (tmOf a) (tmOf b) = true →
      (ownB (smR a b).1 && ownB (smR a b).2) = true → addE fb l e (smR a b) = 0 → TurnIs fb r l p e (newL l (smR a b)) (addP fb l e (smR a b))

theorem mtE_zero {l : Rus} {p : Ru} (h : mtE l p = 0) : ofR l 60 0 p.1 = ((ofR l 60 0 p.1).1, (ofR l 60 0 p.1).2.1, 0) ∧ ofR l 60 0 p.2 = ((ofR l 60 0 p.2).1, (ofR l 60 0 p.2).2.1, 0) := by
  unfold mtE at h
  split at h
  · contradiction
  · rename_i h1
    have h1 : (ofR l 60 0 p.1).2.2 = 0 := by simpa using h1
    exact ⟨by rw [← h1], by rw [← h]⟩
theorem turn_is {fb : Fb} {r : List Int} {l : Rus} {p : Ru} {e : List Ru} (h : (turnV fb r l p e).1 = 0) : TurnIs fb r l p e (turnV fb r l p e).2.1 (turnV fb r l p e).2.2 := by
  have hput : ∀ a b, (putR fb l e (smR a b)).1 = 0 → (ownB (smR a b).1 && ownB (smR a b).2) = true ∧ addE fb l e (smR a b) = 0 ∧ putR fb l e (smR a b) = (0, newL l (smR a b), addP fb l e (smR a b)) := by
    intro a b h
    unfold putR at h ⊢
    split at h
    · rename_i h1
      split at h
      · rename_i h2
        exact ⟨h1, h2, by rw [if_pos h1, if_pos h2]⟩
      · rename_i h2; exact absurd h h2
    · exact absurd h (by decide)
  unfold turnV at h ⊢
  by_cases h1 : mtE l p = 0
  · rw [if_pos h1] at h ⊢
    obtain ⟨q1, q2⟩ := mtE_zero h1
    by_cases h2 : mtB l p = true
    · rw [if_pos h2]
      have e2 := of_decide_eq_true h2
      rw [← e2] at q2
      exact .same _ _ _ q1 q2
    · rw [if_neg h2] at h ⊢
      split at h
      · rename_i h3
        rw [if_pos h3]
        obtain ⟨k1, k2, k3⟩ := hput _ _ h
        rw [k3]
        exact .new _ _ _ _ (.inl ⟨q1, q2⟩) h3 k1 k2
      · rename_i h3
        rw [if_neg h3]
        split at h
        · rename_i h4
          rw [if_pos h4]
          obtain ⟨k1, k2, k3⟩ := hput _ _ h
          rw [k3]
          exact .new _ _ _ _ (.inr ⟨q1, q2⟩) h4 k1 k2
        · exact absurd h (by decide)
  · rw [if_neg h1] at h
    exact absurd h h1

theorem new_rul {r : List Int} {l : Rus} {rr : Ru} (hl : Rul l) (hF : fallsL r l = true) (h : ruleE rr = 0) (hg : gt (rkF r) (tmOf rr.1) (tmOf rr.2) = true) (h8 : (newL l rr).length ≤ 8) : Rul (newL l rr) ∧ fallsL r (newL l rr) = true := by
  refine ⟨⟨h8, fun p hp => ?_⟩, List.all_eq_true.2 fun p hp => ?_⟩
  · rcases List.mem_append.1 hp with hp | hp
    · exact hl.2 p (stay_mem hp)
    · simp at hp; subst hp; exact h
  · rcases List.mem_append.1 hp with hp | hp
    · exact List.all_eq_true.1 hF p (stay_mem hp)
    · simp at hp; subst hp; exact hg
theorem newL_len (l : Rus) (rr : Ru) : (newL l rr).length = (stayL l rr).length + 1 := by rw [newL, List.length_append]; rfl
theorem newL_nth {l : Rus} {rr : Ru} {k : Nat} (h : k < (stayL l rr).length) : nthR (newL l rr) k ∈ l := by
  have : nthR (newL l rr) k = nthR (stayL l rr) k := by
    rw [nthR_eq (by rw [newL_len]; omega), nthR_eq h]
    exact List.getElem_append_left h
  rw [this]; exact stay_mem (nthR_mem h)

theorem two_right {fb : Fb} (hfb : FbOk fb) {l : Rus} (hl : Rul l) {i j : Nat} (hi : i < l.length) (hj : j < l.length) (h : twoE fb l i j = 0) : EqsOk (twoL fb l i j) := fun p hp => by
  obtain ⟨-, -, hc⟩ := pairs_model hfb hl hi hj h
  exact ⟨(hc p hp).1, (hc p hp).2.1⟩

theorem turn_inv {fb : Fb} (hfb : FbOk fb) {r : List Int} {l l' : Rus} {p : Ru} {e e' : List Ru} (hI : Inv r l (p :: e)) (h : TurnIs fb r l p e l' e') : Inv r l' e' := by
  obtain ⟨h1, h2, h3, h4⟩ := hI
  have hp := h4 p (List.mem_cons_self ..)
  cases h with
  | same a n m q1 q2 => exact ⟨h1, h2, h3, fun q hq => h4 q (List.mem_cons_of_mem _ hq)⟩
  | new a b n m hab hg ho hA =>
    have hc : chk a = 0 ∧ chk b = 0 := by
      rcases hab with ⟨q1, q2⟩ | ⟨q1, q2⟩
      · exact ⟨ofR_chk h2 _ _ _ _ _ hp.1 q1, ofR_chk h2 _ _ _ _ _ hp.2 q2⟩
      · exact ⟨ofR_chk h2 _ _ _ _ _ hp.2 q2, ofR_chk h2 _ _ _ _ _ hp.1 q1⟩
    obtain ⟨g1, g2⟩ := smR_rule hc.1 hc.2 hg ho
    obtain ⟨a1, a2, a3⟩ := addE_zero hA
    obtain ⟨n1, n2⟩ := new_rul h2 h3 g1 g2 a1
    refine ⟨h1, n1, n2, fun q hq => ?_⟩
    rcases List.mem_append.1 hq with hq | hq
    · rcases List.mem_append.1 hq with hq | hq
      · exact h4 q (List.mem_cons_of_mem _ hq)
      · exact ruleE_chk (h2.2 q (gone_mem hq))
    · obtain ⟨w, hw, hq⟩ := List.mem_flatMap.1 hq
      have := ways_lt hw
      have hlen := newL_len l (smR a b)
      exact two_right hfb n1 (by omega) (by omega) (a2 w hw) q hq

/-- Both sides of a pair and of the rule that comes of it. -/
theorem smR_back {a b : List Int} (ha : chk a = 0) (hb : chk b = 0) : ∃ S : List Int, (∀ x ∈ S, x < 0) ∧ tmOf (smR a b).1 = (tmOf a).inst (fun v => .leaf (ren S v)) ∧ tmOf (smR a b).2 = (tmOf b).inst (fun v => .leaf (ren S v)) ∧ (tmOf (smR a b).1).inst (inv S) = tmOf a ∧ (tmOf (smR a b).2).inst (inv S) = tmOf b := smo_two' ha hb

/-- In a world: all hold behind a turn just where all held. -/
theorem turn_hol {fb : Fb} (hfb : FbOk fb) {r : List Int} {l l' : Rus} {p : Ru} {e e' : List Ru} (hI : Inv r l (p :: e)) (h : TurnIs fb r l p e l' e') (m : List Int) : (Wor m l ∧ Wor m (p :: e)) ↔ (Wor m l' ∧ Wor m e') := by
  have hI' := turn_inv hfb hI h
  obtain ⟨h1, h2, h3, h4⟩ := hI
  have hp := h4 p (List.mem_cons_self ..)
  have hcons : Wor m (p :: e) ↔ Hol m (tmOf p.1) (tmOf p.2) ∧ Wor m e := by
    constructor
    · intro k; exact ⟨k p (List.mem_cons_self ..), fun q hq => k q (List.mem_cons_of_mem _ hq)⟩
    · rintro ⟨k1, k2⟩ q hq
      rcases List.mem_cons.1 hq with rfl | hq
      · exact k1
      · exact k2 q hq
  rw [hcons]
  cases h with
  | same a n k q1 q2 =>
    constructor
    · rintro ⟨w1, w2, w3⟩; exact ⟨w1, w3⟩
    · rintro ⟨w1, w2⟩
      exact ⟨w1, (ofR_hol h2 w1 _ _ _ _ _ hp.1 q1).trans (ofR_hol h2 w1 _ _ _ _ _ hp.2 q2).symm, w2⟩
  | new a b n k hab hg ho hA =>
    obtain ⟨a1, a2, a3⟩ := addE_zero hA
    have hlen := newL_len l (smR a b)
    have hc : chk a = 0 ∧ chk b = 0 := by
      rcases hab with ⟨q1, q2⟩ | ⟨q1, q2⟩
      · exact ⟨ofR_chk h2 _ _ _ _ _ hp.1 q1, ofR_chk h2 _ _ _ _ _ hp.2 q2⟩
      · exact ⟨ofR_chk h2 _ _ _ _ _ hp.2 q2, ofR_chk h2 _ _ _ _ _ hp.1 q1⟩
    obtain ⟨S, -, e1, e2, e3, e4⟩ := smR_back hc.1 hc.2
    have hforms : Wor m l → (Hol m (tmOf p.1) (tmOf p.2) ↔ Hol m (tmOf a) (tmOf b)) := by
      intro w
      rcases hab with ⟨q1, q2⟩ | ⟨q1, q2⟩
      · have f1 := ofR_hol h2 w _ _ _ _ _ hp.1 q1
        have f2 := ofR_hol h2 w _ _ _ _ _ hp.2 q2
        exact ⟨fun g => (f1.symm.trans g).trans f2, fun g => (f1.trans g).trans f2.symm⟩
      · have f1 := ofR_hol h2 w _ _ _ _ _ hp.1 q1
        have f2 := ofR_hol h2 w _ _ _ _ _ hp.2 q2
        exact ⟨fun g => (f2.symm.trans g.symm).trans f1, fun g => ((f2.trans g).trans f1.symm).symm⟩
    have hrule : Hol m (tmOf (smR a b).1) (tmOf (smR a b).2) ↔ Hol m (tmOf a) (tmOf b) := by
      constructor
      · intro g
        have := g.inst (inv S)
        rw [e3, e4] at this
        exact this
      · intro g; rw [e1, e2]; exact g.inst _
    constructor
    · rintro ⟨w1, w2, w3⟩
      have wn : Wor m (newL l (smR a b)) := fun q hq => by
        rcases List.mem_append.1 hq with hq | hq
        · exact w1 q (stay_mem hq)
        · simp at hq; subst hq; exact hrule.2 ((hforms w1).1 w2)
      refine ⟨wn, fun q hq => ?_⟩
      rcases List.mem_append.1 hq with hq | hq
      · rcases List.mem_append.1 hq with hq | hq
        · exact w3 q hq
        · exact w1 q (gone_mem hq)
      · obtain ⟨w, hw, hq⟩ := List.mem_flatMap.1 hq
        have hlt := ways_lt hw
        obtain ⟨-, -, hm⟩ := pairs_model hfb hI'.rul (by omega) (by omega) (a2 w hw)
        exact (hm q hq).2.2.2 m wn
    · rintro ⟨w1, w2⟩
      have wl : Wor m l := fun q hq => by
        rcases stay_or (smR a b) hq with h5 | h5
        · exact w1 q (List.mem_append.2 (.inl h5))
        · exact w2 q (List.mem_append.2 (.inl (List.mem_append.2 (.inr h5))))
      refine ⟨wl, (hforms wl).2 (hrule.1 (w1 _ (List.mem_append.2 (.inr (by simp))))), fun q hq => w2 q (List.mem_append.2 (.inl (List.mem_append.2 (.inl hq))))⟩

/-! ### All is joined below, in the last rules -/
def GdE (rk : Int → Int) (F : Rl) (e : List Ru) : Prop := ∀ p ∈ e, Gd rk F (tmOf p.1) (tmOf p.2)

theorem turn_gd {fb : Fb} (hfb : FbOk fb) {r : List Int} {l l' : Rus} {p : Ru} {e e' : List Ru} (hI : Inv r l (p :: e)) (h : TurnIs fb r l p e l' e') {F : Rl} (g1 : GdE (rkF r) F l') (g2 : GdE (rkF r) F e') :
    GdE (rkF r) F l ∧ GdE (rkF r) F (p :: e) ∧ ∀ ra rb, ra ∈ l' → rb ∈ l' → (ra ∈ l ∧ rb ∈ l) ∨ CpGd (rkF r) F ra rb := by
  have hI' := turn_inv hfb hI h
  obtain ⟨h1, h2, h3, h4⟩ := hI
  have hp := h4 p (List.mem_cons_self ..)
  have hT := falls_trl h2 h3
  have tr : ∀ {l : Rus}, GdE (rkF r) F l → GdAll (rkF r) F (trl l) := fun k a b hab => by
    obtain ⟨n, hn, rfl, rfl⟩ := trl_mem hab
    exact k _ (nthR_mem hn)
  cases h with
  | same a n k q1 q2 =>
    refine ⟨g1, fun q hq => ?_, fun ra rb ha hb => .inl ⟨ha, hb⟩⟩
    rcases List.mem_cons.1 hq with rfl | hq
    · exact gd_pair hT (tr g1) (tm_chk hp.1).1 (tm_chk hp.2).1 (ofR_rt h2 _ _ _ _ _ hp.1 q1) (ofR_rt h2 _ _ _ _ _ hp.2 q2) (.refl (tm_chk (ofR_chk h2 _ _ _ _ _ hp.1 q1)).1)
    · exact g2 q hq
  | new a b n k hab hg ho hA =>
    obtain ⟨a1, a2, a3⟩ := addE_zero hA
    have hlen := newL_len l (smR a b)
    have hc : chk a = 0 ∧ chk b = 0 := by
      rcases hab with ⟨q1, q2⟩ | ⟨q1, q2⟩
      · exact ⟨ofR_chk h2 _ _ _ _ _ hp.1 q1, ofR_chk h2 _ _ _ _ _ hp.2 q2⟩
      · exact ⟨ofR_chk h2 _ _ _ _ _ hp.2 q2, ofR_chk h2 _ _ _ _ _ hp.1 q1⟩
    obtain ⟨S, hS, -, -, e3, e4⟩ := smR_back hc.1 hc.2
    have gl : GdE (rkF r) F l := fun q hq => by
      rcases stay_or (smR a b) hq with h5 | h5
      · exact g1 q (List.mem_append.2 (.inl h5))
      · exact g2 q (List.mem_append.2 (.inl (List.mem_append.2 (.inr h5))))
    have gab : Gd (rkF r) F (tmOf a) (tmOf b) := by
      have := (g1 (smR a b) (List.mem_append.2 (.inr (by simp)))).inst (inv_ok hS)
      rw [e3, e4] at this
      exact this
    refine ⟨gl, fun q hq => ?_, fun ra rb ha hb => ?_⟩
    · rcases List.mem_cons.1 hq with rfl | hq
      · rcases hab with ⟨q1, q2⟩ | ⟨q1, q2⟩
        · exact gd_pair hT (tr gl) (tm_chk hp.1).1 (tm_chk hp.2).1 (ofR_rt h2 _ _ _ _ _ hp.1 q1) (ofR_rt h2 _ _ _ _ _ hp.2 q2) gab
        · exact gd_pair hT (tr gl) (tm_chk hp.1).1 (tm_chk hp.2).1 (ofR_rt h2 _ _ _ _ _ hp.1 q1) (ofR_rt h2 _ _ _ _ _ hp.2 q2) gab.symm
      · exact g2 q (List.mem_append.2 (.inl (List.mem_append.2 (.inl hq))))
    · obtain ⟨i, hi, rfl⟩ := List.getElem_of_mem ha
      obtain ⟨j, hj, rfl⟩ := List.getElem_of_mem hb
      rw [← nthR_eq hi, ← nthR_eq hj]
      by_cases hn : i = (stayL l (smR a b)).length ∨ j = (stayL l (smR a b)).length
      · right
        have hw := ways_all (n := (stayL l (smR a b)).length) (by omega) (by omega) hn
        exact cpGd_of hfb hI'.rul hi hj (a2 _ hw) fun q hq => g2 q (List.mem_append.2 (.inr (List.mem_flatMap.2 ⟨(i, j), hw, hq⟩)))
      · left
        exact ⟨newL_nth (by omega), newL_nth (by omega)⟩

theorem runV_nil (fb : Fb) (r : List Int) (f n : Nat) (l : Rus) : runV fb r f n l [] = (l, n, 0) := by cases f <;> rfl
theorem run_inv {fb : Fb} (hfb : FbOk fb) {r : List Int} : ∀ (f n : Nat) (l : Rus) (e : List Ru) (x : Rus) (m : Nat), Inv r l e → runV fb r f n l e = (x, m, 0) → Inv r x []
  | _, _, l, [], x, m, hI, h => by
    rw [runV_nil] at h
    cases h
    exact hI
  | 0, _, _, _ :: _, x, m, _, h => by
    exact absurd (congrArg (fun p => p.2.2) h) (fun e => by cases e)
  | f + 1, n, l, p :: e, x, m, hI, h => by
    rw [runV] at h
    split at h
    · rename_i h0
      exact run_inv hfb f (n + 1) _ _ x m (turn_inv hfb hI (turn_is h0)) h
    · rename_i h0
      exact absurd (congrArg (fun p => p.2.2) h) h0
theorem run_hol {fb : Fb} (hfb : FbOk fb) {r : List Int} (w : List Int) : ∀ (f n : Nat) (l : Rus) (e : List Ru) (x : Rus) (m : Nat), Inv r l e → runV fb r f n l e = (x, m, 0) → ((Wor w l ∧ Wor w e) ↔ Wor w x)
  | _, _, l, [], x, m, hI, h => by
    rw [runV_nil] at h
    cases h
    exact ⟨fun k => k.1, fun k => ⟨k, fun q hq => by cases hq⟩⟩
  | 0, _, _, _ :: _, x, m, _, h => by
    exact absurd (congrArg (fun p => p.2.2) h) (fun e => by cases e)
  | f + 1, n, l, p :: e, x, m, hI, h => by
    rw [runV] at h
    split at h
    · rename_i h0
      exact (turn_hol hfb hI (turn_is h0) w).trans (run_hol hfb w f (n + 1) _ _ x m (turn_inv hfb hI (turn_is h0)) h)
    · rename_i h0
      exact absurd (congrArg (fun p => p.2.2) h) h0
theorem run_gd {fb : Fb} (hfb : FbOk fb) {r : List Int} : ∀ (f n : Nat) (l : Rus) (e : List Ru) (x : Rus) (m : Nat), Inv r l e → runV fb r f n l e = (x, m, 0) →
    GdE (rkF r) (trl x) l ∧ GdE (rkF r) (trl x) e ∧ ∀ ra rb, ra ∈ x → rb ∈ x → (ra ∈ l ∧ rb ∈ l) ∨ CpGd (rkF r) (trl x) ra rb
  | _, _, l, [], x, m, hI, h => by
    rw [runV_nil] at h
    cases h
    exact ⟨fun q hq => gd_rule (falls_trl hI.rul hI.fl) (mem_trl hq), (fun q hq => by cases hq), fun ra rb ha hb => .inl ⟨ha, hb⟩⟩
  | 0, _, _, _ :: _, x, m, _, h => by
    exact absurd (congrArg (fun p => p.2.2) h) (fun e => by cases e)
  | f + 1, n, l, p :: e, x, m, hI, h => by
    rw [runV] at h
    split at h
    · rename_i h0
      obtain ⟨k1, k2, k3⟩ := run_gd hfb f (n + 1) _ _ x m (turn_inv hfb hI (turn_is h0)) h
      obtain ⟨c1, c2, c3⟩ := turn_gd hfb hI (turn_is h0) k1 k2
      refine ⟨c1, c2, fun ra rb ha hb => ?_⟩
      rcases k3 ra rb ha hb with ⟨a1, a2⟩ | a1
      · exact c3 ra rb a1 a2
      · exact .inr a1
    · rename_i h0
      exact absurd (congrArg (fun p => p.2.2) h) h0

theorem inv_start {r : List Int} {e : List Ru} (hr : rankE r = 0) (he : EqsOk e) : Inv r [] e := ⟨hr, ⟨by simp, fun p hp => by cases hp⟩, rfl, he⟩

theorem run_peaks {fb : Fb} (hfb : FbOk fb) {r : List Int} {f : Nat} {e : List Ru} {x : Rus} {m : Nat} (hr : rankE r = 0) (he : EqsOk e) (h : runV fb r f 0 [] e = (x, m, 0)) :
    Rul x ∧ fallsL r x = true ∧ Peaks (rkF r) (trl x) ∧ GdE (rkF r) (trl x) e := by
  have hI := run_inv hfb f 0 [] e x m (inv_start hr he) h
  obtain ⟨k1, k2, k3⟩ := run_gd hfb f 0 [] e x m (inv_start hr he) h
  refine ⟨hI.rul, hI.fl, peaks_of (falls_trl hI.rul hI.fl) (cps_of hI.rul hI.fl fun i j hi hj => ?_), k2⟩
  rcases k3 _ _ (nthR_mem hi) (nthR_mem hj) with ⟨a1, -⟩ | a1
  · cases a1
  · exact a1

theorem conn_form {r : List Int} {l : Rus} (hr : rankE r = 0) (hl : Rul l) (hF : fallsL r l = true) (hP : Peaks (rkF r) (trl l)) {a b x y : List Int} {n m : Nat} (ha : chk a = 0) (hb : chk b = 0) {u : Tm} (h : Conn (rkF r) (trl l) u (tmOf a) (tmOf b))
    (hx : ofR l 60 0 a = (x, n, 0)) (hy : ofR l 60 0 b = (y, m, 0)) : x = y := by
  obtain ⟨c, c1, c2⟩ := join_of_conn (rank_nonneg hr) (falls_trl hl hF) hP u _ _ h
  have hX := ofR_rt hl _ _ _ _ _ ha hx
  have hY := ofR_rt hl _ _ _ _ _ hb hy
  have cx := ofR_chk hl _ _ _ _ _ ha hx
  have cy := ofR_chk hl _ _ _ _ _ hb hy
  obtain ⟨z1, z2⟩ := ofR_last _ _ _ _ _ hx
  obtain ⟨z3, z4⟩ := ofR_last _ _ _ _ _ hy
  have nx := nf_of hl cx z1 z2
  have ny := nf_of hl cy z3 z4
  have hT := falls_trl hl hF
  obtain ⟨d, d1, d2⟩ := conf_of_peaks (rank_nonneg hr) hT hP (tm_chk ha).1 c1 hX
  obtain ⟨f, f1, f2⟩ := conf_of_peaks (rank_nonneg hr) hT hP (tm_chk hb).1 c2 hY
  have e1 := d2.nf nx
  have e2 := f2.nf ny
  subst e1 e2
  obtain ⟨g, g1, g2⟩ := conf_of_peaks (rank_nonneg hr) hT hP (c1.ok hT (tm_chk ha).1) d1 f1
  exact tm_inj cx cy ((g1.nf nx).symm.trans (g2.nf ny))

/-- A pair that was handed in has one form. -/
theorem run_pair {fb : Fb} (hfb : FbOk fb) {r : List Int} {f : Nat} {e : List Ru} {x : Rus} {m : Nat} (hr : rankE r = 0) (he : EqsOk e) (h : runV fb r f 0 [] e = (x, m, 0)) {p : Ru} (hp : p ∈ e) (hm : mtE x p = 0) : mtB x p = true := by
  obtain ⟨h1, h2, h3, h4⟩ := run_peaks hfb hr he h
  obtain ⟨q1, q2⟩ := mtE_zero hm
  obtain ⟨c1, c2⟩ := he p hp
  have hc := (h4 p hp).conn (u := .bin 4 (tmOf p.1) (tmOf p.2)) (tm_chk c1).1 (tm_chk c2).1 (gt_part (by simp [Tm.parts])) (gt_part (by simp [Tm.parts]))
  exact decide_eq_true (conn_form hr h1 h2 h3 c1 c2 hc q1 q2)
/-- And all pairs of the rules meet. -/
theorem run_all {fb : Fb} (hfb : FbOk fb) {r : List Int} {f : Nat} {e : List Ru} {x : Rus} {m : Nat} (hr : rankE r = 0) (he : EqsOk e) (h : runV fb r f 0 [] e = (x, m, 0)) (hE : evE fb x = 0) : ∀ p ∈ evL fb x x.length, mtE x p = 0 → mtB x p = true := by
  obtain ⟨h1, h2, h3, -⟩ := run_peaks hfb hr he h
  have hT := falls_trl h1 h2
  intro p hp hm
  obtain ⟨i, hi, hp⟩ := List.mem_flatMap.1 hp
  obtain ⟨j, hj, hp⟩ := List.mem_flatMap.1 hp
  have hi := List.mem_range.1 hi
  have hj := List.mem_range.1 hj
  have h0 := (evE_zero hE).1 i j hi hj
  have hp0 := hp
  rw [twoL, if_pos h0] at hp
  obtain ⟨z, hz, rfl⟩ := List.mem_map.1 hp
  obtain ⟨θ, hL, hok, c1, c2, e1, e2⟩ := two_chk hfb h1 hi hj h0 hz
  obtain ⟨S, hS, f1, f2, -, -⟩ := smo_two' c1 c2
  obtain ⟨q1, q2⟩ := mtE_zero hm
  obtain ⟨k1, k2⟩ := two_right hfb h1 hi hj h0 _ hp0
  have o1 := (tm_chk (h1.chk hi).1).1
  have o2 := (tm_chk (h1.chk hi).2).1
  have o3 := (tm_chk (h1.chk hj).2).1
  have hk := lt_tm (h1.chk hi).1 (lap_mem hz).1
  have a1 : Rw (trl x) (((tmOf (nthR x i).1).put z.1 (oth (tmOf (nthR x j).1))).inst θ) (((tmOf (nthR x i).1).put z.1 (oth (tmOf (nthR x j).2))).inst θ) := by
    refine rw_inst' hok (rw_put ?_ _ _ hk) (put_ok o1 (oth_ok (tm_chk (h1.chk hj).1).1) hk)
    exact .top (fun v => .leaf (v - 4)) (mem_trl (nthR_mem hj)) fun v hv => by show ar (v - 4) = 0; exact ar_neg (by omega)
  have a2 : ((tmOf (nthR x i).1).put z.1 (oth (tmOf (nthR x j).1))).inst θ = (tmOf (nthR x i).1).inst θ := put_inst_same hk (hL.mgu.same _ (List.mem_cons_self ..))
  have a3 : Rw (trl x) ((tmOf (nthR x i).1).inst θ) ((tmOf (nthR x i).2).inst θ) := .top θ (mem_trl (nthR_mem hi)) hok
  rw [a2, ← e1] at a1
  rw [← e2] at a3
  have hto : ((tmOf (nthR x i).1).inst θ).ok := inst_ok hok o1
  have hro : OkS fun v => .leaf (ren S v) := fun v hv => by show ar (ren S v) = 0; rw [ar_ren, ar_neg hv]
  have b1 := rw_inst' hro a1 hto
  have b3 := rw_inst' hro a3 hto
  rw [← f1] at b1
  rw [← f2] at b3
  have hc : Conn (rkF r) (trl x) (((tmOf (nthR x i).1).inst θ).inst fun v => .leaf (ren S v)) (tmOf (smo [] z.2.2)) (tmOf (smo (seenA [] z.2.2) (twoTo (nthR x i) z))) :=
    h3 _ _ _ (inst_ok hro hto) b1 b3
  exact decide_eq_true (conn_form hr h1 h2 h3 k1 k2 hc q1 q2)

end Go.Proofs.Ytepddehodmljeaa
