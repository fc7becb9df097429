/- Walks: bind and meet of unify. -/
import Derived.Test.YtepddehodmljeaaX2
namespace Go.Proofs.Ytepddehodmljeaa
open Go.RowKit Go.Maps

/-! ### Part by part, plain -/
def MetP (β : Bn) (l : List (Tm × Tm)) (is : Bool) (β' : Bn) : Prop :=
  if is = true then (β' = β ∨ fr β' < fr β) ∧ (∃ θ', St β' θ') ∧ ∀ τ, Sat τ β' ↔ Sat τ β ∧ ∀ p ∈ l, p.1.inst τ = p.2.inst τ
  else ∀ τ, Sat τ β → ¬ ∀ p ∈ l, p.1.inst τ = p.2.inst τ
theorem metP_nil {β : Bn} {θ : Int → Tm} (h : St β θ) : MetP β [] true β := by
  unfold MetP; rw [if_pos rfl]
  exact ⟨.inl rfl, ⟨θ, h⟩, fun τ => ⟨fun h => ⟨h, fun p hp => by simp at hp⟩, fun h => h.1⟩⟩
theorem metP_snoc {β β' β'' : Bn} {l : List (Tm × Tm)} {x y : Tm} {is : Bool} (h : MetP β l true β') (k : Met β' x y is β'') : MetP β (l ++ [(x, y)]) is β'' := by
  unfold MetP at h ⊢
  unfold Met at k
  rw [if_pos rfl] at h
  have hs : ∀ τ : Int → Tm, (∀ p ∈ l ++ [(x, y)], p.1.inst τ = p.2.inst τ) ↔ (∀ p ∈ l, p.1.inst τ = p.2.inst τ) ∧ x.inst τ = y.inst τ := by
    intro τ
    constructor
    · intro q
      exact ⟨fun p hp => q p (by simp [hp]), q (x, y) (by simp)⟩
    · rintro ⟨q1, q2⟩ p hp
      rcases List.mem_append.1 hp with hp | hp
      · exact q1 p hp
      · simp at hp; subst hp; exact q2
  cases is with
  | true =>
    rw [if_pos rfl] at k ⊢
    refine ⟨?_, k.2.1, fun τ => by rw [k.2.2, h.2.2, hs, and_assoc]⟩
    rcases k.1 with rfl | k1
    · exact h.1
    · rcases h.1 with rfl | h1
      · exact .inr k1
      · exact .inr (by omega)
  | false =>
    rw [if_neg (by decide)] at k ⊢
    intro τ hτ q
    rw [hs] at q
    exact k τ ((h.2.2 τ).2 ⟨hτ, q.1⟩) q.2
theorem metP_no {β β' : Bn} {l m : List (Tm × Tm)} (h : MetP β l false β') : MetP β (l ++ m) false β' := by
  unfold MetP at h ⊢
  rw [if_neg (by decide)] at h ⊢
  exact fun τ hτ k => h τ hτ fun p hp => k p (by simp [hp])

theorem psT_range (t : List Int) (k : Nat) : psT t k = (List.range (ar (nth t k))).map (psN t k) := by
  have := ar_le (nth t k)
  rcases (by omega : ar (nth t k) = 0 ∨ ar (nth t k) = 1 ∨ ar (nth t k) = 2) with h | h | h <;> simp [psT, h, psN, List.range_succ]
theorem inst_parts_eq {x y : Tm} {n : Nat} {f g : Nat → Tm} (hn : ar x.sg = n) (hx : x.ok) (hy : y.ok) (h0 : 0 ≤ x.sg) (hs : x.sg = y.sg) (hf : x.parts = (List.range n).map f) (hg : y.parts = (List.range n).map g) (τ : Int → Tm) :
    x.inst τ = y.inst τ ↔ ∀ p ∈ (List.range n).map fun m => (f m, g m), p.1.inst τ = p.2.inst τ := by
  cases x with
  | leaf s =>
    have h1 : ar s = 0 := hx
    have h2 : ar s = n := hn
    rw [h1] at h2; subst h2
    cases y with
    | leaf t => have : s = t := hs; subst this; simp
    | un t b => have : s = t := hs; subst this; have := hy.1; omega
    | bin t b c => have : s = t := hs; subst this; have := hy.1; omega
  | un s a =>
    have h2 : ar s = n := hn
    rw [hx.1] at h2; subst h2
    cases y with
    | leaf t => have : s = t := hs; subst this; have h3 : ar s = 0 := hy; have := hx.1; omega
    | bin t b c => have : s = t := hs; subst this; have := hy.1; have := hx.1; omega
    | un t b =>
      have : s = t := hs
      subst this
      simp [Tm.parts, List.range_succ] at hf hg
      subst hf hg
      show Tm.un s _ = Tm.un s _ ↔ _
      simp [List.range_succ]
  | bin s a b =>
    have h2 : ar s = n := hn
    rw [hx.1] at h2; subst h2
    cases y with
    | leaf t => have : s = t := hs; subst this; have h3 : ar s = 0 := hy; have := hx.1; omega
    | un t c => have : s = t := hs; subst this; have := hy.1; have := hx.1; omega
    | bin t c d =>
      have : s = t := hs
      subst this
      simp [Tm.parts, List.range_succ] at hf hg
      obtain ⟨rfl, rfl⟩ := hf
      obtain ⟨rfl, rfl⟩ := hg
      show Tm.bin s _ _ = Tm.bin s _ _ ↔ _
      simp [List.range_succ]
theorem met_of_parts {β β' : Bn} {x y : Tm} {n : Nat} {f g : Nat → Tm} {is : Bool} (hn : ar x.sg = n) (hx : x.ok) (hy : y.ok) (h0 : 0 ≤ x.sg) (hs : x.sg = y.sg) (hf : x.parts = (List.range n).map f) (hg : y.parts = (List.range n).map g)
    (h : MetP β ((List.range n).map fun m => (f m, g m)) is β') : Met β x y is β' := by
  have e := inst_parts_eq hn hx hy h0 hs hf hg
  unfold MetP at h
  unfold Met
  cases is with
  | true => rw [if_pos rfl] at h ⊢; exact ⟨h.1, h.2.1, fun τ => by rw [h.2.2, e]⟩
  | false => rw [if_neg (by decide)] at h ⊢; exact fun τ hτ k => h τ hτ ((e τ).1 k)
theorem part_inst_lt (θ : Int → Tm) {x p : Tm} (h : p ∈ x.parts) : (p.inst θ).size < (x.inst θ).size := by
  cases x with
  | leaf s => simp [Tm.parts] at h
  | un s a => simp [Tm.parts] at h; subst h; show _ < _ + 1; omega
  | bin s a b => simp [Tm.parts] at h; rcases h with rfl | rfl <;> (show _ < _ + _ + 1; omega)

/-! ### bind -/
set_option maxRecDepth 100000 in
set_option maxHeartbeats 2000000 in
theorem bind_calls {B : Nat} {β : Bn} {θ : Int → Tm} (hS : St β θ) {v : Int} (h8 : -8 ≤ v) (hv : v < 0) {t : Tm} (ht : t.ok) (hs : ∀ s ∈ t.flat, -8 ≤ s ∧ s < 6) (hl : t.size ≤ 30) {u : Value} {w : World} (hB : BnIs B w β) (hu : IsInts (fun b => b ≠ B) w u t.flat) :
    Calls Try.prog 206 #[.pointer (some ⟨B, 0, none⟩), .int .i64 v, u] w fun e w' => ∃ is, e = .returned (.bool is) ∧ is = !decide (v ∈ (t.inst θ).flat) ∧ (is = true → BnIs B w' (bnd β v t)) ∧ Keeps (fun b => b = B) w w' := by
  obtain ⟨ub, uo, uc, hue⟩ := hu.cells (flat_ne t)
  obtain ⟨r, hr⟩ := hS.rk
  obtain ⟨n, hn⟩ : ∃ n, ∀ s ∈ t.flat, s < 0 → r s < n := ⟨(t.flat.map r).sum + 1, fun s h _ => by have := le_sum (f := r) t.flat s h; omega⟩
  have hocc := Lib.hid (occurs_calls hS hr hv n t u w ht hs hl hn hB hu)
  have HB := Lib.hid hB
  have HU := Lib.hid hu
  obtain ⟨m, hm8, hzm⟩ : ∃ m : Nat, m < 8 ∧ v = -1 - (m : Int) := ⟨(-1 - v).toNat, by omega, by omega⟩
  have hmm : (m : Int) < 8 := by omega
  have hw : IntKind.i64.wrap (-1 - (-1 - (m : Int))) = m := by rw [IntWalk.i64_in _ (by omega)]; omega
  have hst : Hid (∀ w', Below w.heap.size w w' → BnIs B (w'.setCell ⟨B, m, none⟩ u) (bnd β v t) ∧ Keeps (fun b => b = B) w (w'.setCell ⟨B, m, none⟩ u)) := fun w' hb => by
    obtain ⟨h1, h2⟩ := (hB.keep hb).store h8 hv (hu.mono (.of_below hb))
    rw [show (-1 - v).toNat = m by omega] at h1 h2
    exact ⟨h1, (Keeps.of_below hb).trans h2⟩
  have hcl : Hid (∀ w', Below w.heap.size w w' → (∃ q, w'.cell? ⟨B, m, none⟩ = some q) ∧ w'.frozen? ⟨B, m, none⟩ = false) := fun w' hb => by
    obtain ⟨q, h1, -⟩ := (hB.keep hb).cell h8 hv
    rw [show (-1 - v).toNat = m by omega] at h1
    exact ⟨⟨q, h1⟩, (hB.keep hb).frozen m⟩
  clear hB hu hS hr hn ht hs hl HU HB
  subst hue
  generalize t.flat.length = M at *
  cases hd : decide (v ∈ (t.inst θ).flat)
  · rw [hd] at hocc
    clear hd
    subst hzm
    go_enter Try.func206, Try.ntmps206
    go_wp2_with fail
    refine hocc.out.mono ?_
    rintro e w' ⟨rfl, hb⟩
    obtain ⟨⟨q, hq⟩, hf⟩ := hcl.out w' hb
    have HS := Lib.hid (hst.out w' hb)
    go_wp2_with fail
    go_ret
    exact ⟨true, rfl, rfl, fun _ => HS.out.1, HS.out.2⟩
  · rw [hd] at hocc
    clear hd hzm hw hmm hst hcl
    go_enter Try.func206, Try.ntmps206
    go_wp2_with fail
    refine hocc.out.mono ?_
    rintro e w' ⟨rfl, hb⟩
    go_wp2_with fail
    go_ret
    exact ⟨false, rfl, rfl, (fun h => by cases h), .of_below hb⟩

end Go.Proofs.Ytepddehodmljeaa
