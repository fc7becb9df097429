/- Plain: steps, chains, peaks; what a run leaves; meeting, bindings, what Meet answers, reckoned. No program in sight. -/
import Derived.Test.YtepddehodmljeaaG2
import Derived.Test.YtepddehodmljeaaG5
namespace Go.Proofs.Ytepddehodmljeaa

abbrev Rl := List (Tm × Tm)
/-- A way of what variables become. -/
def OkS (σ : Int → Tm) : Prop := ∀ v, v < 0 → (σ v).ok

/-- One step, wherever it stands. -/
inductive Rw (R : Rl) : Tm → Tm → Prop
  | top {l r : Tm} (σ : Int → Tm) : (l, r) ∈ R → OkS σ → Rw R (l.inst σ) (r.inst σ)
  | un {a b : Tm} (s : Int) : Rw R a b → Rw R (.un s a) (.un s b)
  | left {a b : Tm} (s : Int) (c : Tm) : Rw R a b → Rw R (.bin s a c) (.bin s b c)
  | right {a b : Tm} (s : Int) (c : Tm) : Rw R a b → Rw R (.bin s c a) (.bin s c b)

/-- Steps, none or more. -/
inductive Rt (R : Rl) : Tm → Tm → Prop
  | refl (a : Tm) : Rt R a a
  | step {a b c : Tm} : Rw R a b → Rt R b c → Rt R a c

/-- Right rules that fall. -/
structure Falls (rk : Int → Int) (R : Rl) : Prop where
  okl : ∀ l r, (l, r) ∈ R → l.ok
  okr : ∀ l r, (l, r) ∈ R → r.ok
  sg : ∀ l r, (l, r) ∈ R → 0 ≤ l.sg
  gt : ∀ l r, (l, r) ∈ R → gt rk l r = true
  var : ∀ l r, (l, r) ∈ R → ∀ v ∈ r.flat, v < 0 → v ∈ l.flat
  own : ∀ l r, (l, r) ∈ R → ∀ v ∈ l.flat, -4 ≤ v

variable {rk : Int → Int} {R : Rl}

theorem Rt.one {a b : Tm} (h : Rw R a b) : Rt R a b := .step h (.refl _)
theorem Rt.trans {a b c : Tm} (h : Rt R a b) (k : Rt R b c) : Rt R a c := by
  induction h with
  | refl => exact k
  | step h _ ih => exact .step h (ih k)
theorem Rt.un {a b : Tm} (s : Int) (h : Rt R a b) : Rt R (.un s a) (.un s b) := by
  induction h with
  | refl => exact .refl _
  | step h _ ih => exact .step (.un s h) ih
theorem Rt.left {a b : Tm} (s : Int) (c : Tm) (h : Rt R a b) : Rt R (.bin s a c) (.bin s b c) := by
  induction h with
  | refl => exact .refl _
  | step h _ ih => exact .step (.left s c h) ih
theorem Rt.right {a b : Tm} (s : Int) (c : Tm) (h : Rt R a b) : Rt R (.bin s c a) (.bin s c b) := by
  induction h with
  | refl => exact .refl _
  | step h _ ih => exact .step (.right s c h) ih

theorem Rw.down (hF : Falls rk R) {a b : Tm} (h : Rw R a b) : a.ok → gt rk a b = true ∧ b.ok := by
  induction h with
  | top σ hm hσ => intro _; exact ⟨gt_inst σ (hF.gt _ _ hm), inst_ok hσ (hF.okr _ _ hm)⟩
  | un s _ ih => intro ha; exact ⟨gt_un (by have := ar_pos (s := s) (by rw [ha.1]; decide); omega) (ih ha.2).1, ha.1, (ih ha.2).2⟩
  | left s c _ ih => intro ha; exact ⟨gt_left (by have := ar_pos (s := s) (by rw [ha.1]; decide); omega) (ih ha.2.1).1, ha.1, (ih ha.2.1).2, ha.2.2⟩
  | right s c _ ih => intro ha; exact ⟨gt_right (by have := ar_pos (s := s) (by rw [ha.1]; decide); omega) (ih ha.2.2).1, ha.1, ha.2.1, (ih ha.2.2).2⟩
theorem Rt.ok (hF : Falls rk R) {a b : Tm} (h : Rt R a b) : a.ok → b.ok := by
  induction h with
  | refl => exact id
  | step h _ ih => intro ha; exact ih (h.down hF ha).2
theorem Rt.down (hF : Falls rk R) {a b u : Tm} (h : Rt R a b) : a.ok → gt rk u a = true → gt rk u b = true := by
  induction h with
  | refl => exact fun _ h => h
  | step h _ ih => intro ha hu; exact ih (h.down hF ha).2 (gt_trans hu (h.down hF ha).1)

/-- A chain of steps, back and forth, all of it below u. -/
inductive Conn (rk : Int → Int) (R : Rl) (u : Tm) : Tm → Tm → Prop
  | refl {a : Tm} : a.ok → gt rk u a = true → Conn rk R u a a
  | fwd {a b c : Tm} : a.ok → gt rk u a = true → Rw R a b → Conn rk R u b c → Conn rk R u a c
  | bwd {a b c : Tm} : a.ok → gt rk u a = true → Rw R b a → Conn rk R u b c → Conn rk R u a c

namespace Conn
variable {u a b c : Tm}
theorem trans (h : Conn rk R u a b) (k : Conn rk R u b c) : Conn rk R u a c := by
  induction h with
  | refl => exact k
  | fwd h1 h2 h3 _ ih => exact .fwd h1 h2 h3 (ih k)
  | bwd h1 h2 h3 _ ih => exact .bwd h1 h2 h3 (ih k)
theorem start (h : Conn rk R u a b) : a.ok ∧ gt rk u a = true := by cases h <;> exact ⟨by assumption, by assumption⟩
theorem stop (h : Conn rk R u a b) : b.ok ∧ gt rk u b = true := by
  induction h with
  | refl h1 h2 => exact ⟨h1, h2⟩
  | fwd _ _ _ _ ih => exact ih
  | bwd _ _ _ _ ih => exact ih
theorem symm (h : Conn rk R u a b) : Conn rk R u b a := by
  induction h with
  | refl h1 h2 => exact .refl h1 h2
  | fwd h1 h2 h3 h4 ih => exact ih.trans (.bwd h4.start.1 h4.start.2 h3 (.refl h1 h2))
  | bwd h1 h2 h3 h4 ih => exact ih.trans (.fwd h4.start.1 h4.start.2 h3 (.refl h1 h2))
theorem weak {u' : Tm} (h : Conn rk R u a b) (hu : gt rk u' u = true) : Conn rk R u' a b := by
  induction h with
  | refl h1 h2 => exact .refl h1 (gt_trans hu h2)
  | fwd h1 h2 h3 _ ih => exact .fwd h1 (gt_trans hu h2) h3 ih
  | bwd h1 h2 h3 _ ih => exact .bwd h1 (gt_trans hu h2) h3 ih
theorem of_rt (hF : Falls rk R) (h : Rt R a b) : a.ok → gt rk u a = true → Conn rk R u a b := by
  induction h with
  | refl => exact fun h1 h2 => .refl h1 h2
  | step h _ ih => intro ha hu; exact .fwd ha hu h (ih (h.down hF ha).2 (gt_trans hu (h.down hF ha).1))
theorem un {s : Int} (hs : ar s = 1) (h : Conn rk R u a b) : Conn rk R (.un s u) (.un s a) (.un s b) := by
  have h0 : 0 ≤ s := by have := ar_pos (s := s) (by rw [hs]; decide); omega
  induction h with
  | refl h1 h2 => exact .refl ⟨hs, h1⟩ (gt_un h0 h2)
  | fwd h1 h2 h3 _ ih => exact .fwd ⟨hs, h1⟩ (gt_un h0 h2) (.un s h3) ih
  | bwd h1 h2 h3 _ ih => exact .bwd ⟨hs, h1⟩ (gt_un h0 h2) (.un s h3) ih
theorem left {s : Int} {d : Tm} (hs : ar s = 2) (hd : d.ok) (h : Conn rk R u a b) : Conn rk R (.bin s u d) (.bin s a d) (.bin s b d) := by
  have h0 : 0 ≤ s := by have := ar_pos (s := s) (by rw [hs]; decide); omega
  induction h with
  | refl h1 h2 => exact .refl ⟨hs, h1, hd⟩ (gt_left h0 h2)
  | fwd h1 h2 h3 _ ih => exact .fwd ⟨hs, h1, hd⟩ (gt_left h0 h2) (.left s d h3) ih
  | bwd h1 h2 h3 _ ih => exact .bwd ⟨hs, h1, hd⟩ (gt_left h0 h2) (.left s d h3) ih
theorem right {s : Int} {d : Tm} (hs : ar s = 2) (hd : d.ok) (h : Conn rk R u a b) : Conn rk R (.bin s d u) (.bin s d a) (.bin s d b) := by
  have h0 : 0 ≤ s := by have := ar_pos (s := s) (by rw [hs]; decide); omega
  induction h with
  | refl h1 h2 => exact .refl ⟨hs, hd, h1⟩ (gt_right h0 h2)
  | fwd h1 h2 h3 _ ih => exact .fwd ⟨hs, hd, h1⟩ (gt_right h0 h2) (.right s d h3) ih
  | bwd h1 h2 h3 _ ih => exact .bwd ⟨hs, hd, h1⟩ (gt_right h0 h2) (.right s d h3) ih
end Conn

/-- Each peak of two steps is joined below. -/
def Peaks (rk : Int → Int) (R : Rl) : Prop := ∀ w y z, w.ok → Rw R w y → Rw R w z → Conn rk R w y z

theorem join_of_conn (h0 : ∀ s, 0 ≤ rk s) (hF : Falls rk R) (hP : Peaks rk R) : ∀ (u a b : Tm), Conn rk R u a b → ∃ c, Rt R a c ∧ Rt R b c := by
  intro u
  induction u using (gt_wf h0).induction with
  | h u ih =>
    have ih : ∀ v, gt rk u v = true → ∀ a b, Conn rk R v a b → ∃ c, Rt R a c ∧ Rt R b c := ih
    intro a b h
    induction h with
    | @refl a _ _ => exact ⟨a, .refl _, .refl _⟩
    | fwd _ _ h3 _ ih2 => obtain ⟨d, h5, h6⟩ := ih2; exact ⟨d, .step h3 h5, h6⟩
    | @bwd a a1 b h1 h2 h3 h4 ih2 =>
      obtain ⟨d, h5, h6⟩ := ih2
      have hu1 := h4.start
      cases h5 with
      | refl => exact ⟨a, .refl _, h6.trans (.one h3)⟩
      | @step _ z _ h7 h8 =>
        obtain ⟨e, h9, h10⟩ := ih a1 hu1.2 a z (hP a1 a z hu1.1 h3 h7)
        have hz := h7.down hF hu1.1
        have c1 : Conn rk R a1 e d := ((Conn.of_rt hF h10 hz.2 hz.1).symm).trans (Conn.of_rt hF h8 hz.2 hz.1)
        obtain ⟨f, h11, h12⟩ := ih a1 hu1.2 e d c1
        exact ⟨f, h9.trans h11, h6.trans h12⟩

theorem conf_of_peaks (h0 : ∀ s, 0 ≤ rk s) (hF : Falls rk R) (hP : Peaks rk R) {w y z : Tm} (hw : w.ok) (h1 : Rt R w y) (h2 : Rt R w z) : ∃ c, Rt R y c ∧ Rt R z c := by
  cases h1 with
  | refl => exact ⟨z, h2, .refl _⟩
  | step a1 b1 =>
    cases h2 with
    | refl => exact ⟨y, .refl _, .step a1 b1⟩
    | step a2 b2 =>
      have d1 := a1.down hF hw
      have d2 := a2.down hF hw
      exact join_of_conn h0 hF hP w y z (((Conn.of_rt hF b1 d1.2 d1.1).symm.trans (hP w _ _ hw a1 a2)).trans (Conn.of_rt hF b2 d2.2 d2.1))

/-- Nothing goes on from here. -/
def Nf (R : Rl) (a : Tm) : Prop := ∀ b, ¬ Rw R a b
theorem Rt.nf {a b : Tm} (h : Rt R a b) (hn : Nf R a) : b = a := by
  cases h with
  | refl => rfl
  | step h _ => exact absurd h (hn _)

/-- Back and forth, however high. -/
inductive Cv (R : Rl) : Tm → Tm → Prop
  | refl (a : Tm) : Cv R a a
  | fwd {a b c : Tm} : Rw R a b → Cv R b c → Cv R a c
  | bwd {a b c : Tm} : b.ok → Rw R b a → Cv R b c → Cv R a c
theorem Cv.trans {a b c : Tm} (h : Cv R a b) (k : Cv R b c) : Cv R a c := by
  induction h with
  | refl => exact k
  | fwd h _ ih => exact .fwd h (ih k)
  | bwd ho h _ ih => exact .bwd ho h (ih k)
theorem Cv.of_rt {a b : Tm} (h : Rt R a b) : Cv R a b := by
  induction h with
  | refl => exact .refl _
  | step h _ ih => exact .fwd h ih
theorem Cv.of_conn {u a b : Tm} (h : Conn rk R u a b) : Cv R a b := by
  induction h with
  | refl => exact .refl _
  | fwd _ _ h _ ih => exact .fwd h ih
  | bwd _ _ h k ih => exact .bwd k.start.1 h ih
theorem Cv.back (hF : Falls rk R) {a b : Tm} (ha : a.ok) (h : Rt R a b) : Cv R b a := by
  induction h with
  | refl => exact .refl _
  | step h _ ih => exact (ih (h.down hF ha).2).trans (.bwd ha h (.refl _))
theorem join_of_cv (h0 : ∀ s, 0 ≤ rk s) (hF : Falls rk R) (hP : Peaks rk R) {a b : Tm} (h : Cv R a b) : a.ok → ∃ c, Rt R a c ∧ Rt R b c := by
  induction h with
  | refl a => exact fun _ => ⟨a, .refl _, .refl _⟩
  | fwd h _ ih => intro ha; obtain ⟨c, h1, h2⟩ := ih (h.down hF ha).2; exact ⟨c, .step h h1, h2⟩
  | bwd ho h _ ih =>
    intro _
    obtain ⟨c, h1, h2⟩ := ih ho
    obtain ⟨d, h3, h4⟩ := conf_of_peaks h0 hF hP ho (.one h) h1
    exact ⟨d, h3, h2.trans h4⟩

/-! ### Peaks out of pairs -/
def upd (σ : Int → Tm) (v : Int) (t : Tm) : Int → Tm := fun u => if u = v then t else σ u
theorem upd_ok {σ : Int → Tm} (h : OkS σ) {v : Int} {t : Tm} (ht : t.ok) : OkS (upd σ v t) := by
  intro u hu
  unfold upd
  split
  · exact ht
  · exact h u hu
/-- A variable that goes a step: whatever it stands in goes. -/
theorem rt_upd {σ : Int → Tm} {v : Int} {t : Tm} (h : Rw R (σ v) t) : ∀ l : Tm, Rt R (l.inst σ) (l.inst (upd σ v t))
  | .leaf s => by
    show Rt R (if s < 0 then σ s else .leaf s) (if s < 0 then upd σ v t s else .leaf s)
    split
    · unfold upd
      split
      · rename_i e; subst e; exact .one h
      · exact .refl _
    · exact .refl _
  | .un s a => (rt_upd h a).un s
  | .bin s a b => ((rt_upd h a).left s _).trans ((rt_upd h b).right s _)

/-- The same, with one part of it already otherwise. -/
def plug (σ : Int → Tm) : Tm → Nat → Tm → Tm
  | _, 0, u => u
  | .leaf s, _ + 1, _ => .leaf s
  | .un s a, k + 1, u => .un s (plug σ a k u)
  | .bin s a b, k + 1, u => if k < a.size then .bin s (plug σ a k u) (b.inst σ) else .bin s (a.inst σ) (plug σ b (k - a.size) u)

/-- A step within what a term becomes: within what a variable becomes, or at a symbol of the term's own. -/
theorem rw_inst {σ : Int → Tm} : ∀ (l z : Tm), l.ok → Rw R (l.inst σ) z →
    (∃ v t, v < 0 ∧ v ∈ l.flat ∧ Rw R (σ v) t ∧ Rt R z (l.inst (upd σ v t))) ∨
    (∃ k l2 r2 τ, k < l.size ∧ 0 ≤ (l.sub k).sg ∧ (l2, r2) ∈ R ∧ OkS τ ∧ (l.sub k).inst σ = l2.inst τ ∧ z = plug σ l k (r2.inst τ))
  | .leaf s, z, _, h => by
    by_cases hs : s < 0
    · have e : (Tm.leaf s).inst σ = σ s := if_pos hs
      rw [e] at h
      refine .inl ⟨s, z, hs, by simp [Tm.flat], h, ?_⟩
      have e2 : (Tm.leaf s).inst (upd σ s z) = z := by
        show (if s < 0 then upd σ s z s else .leaf s) = z
        rw [if_pos hs]; simp [upd]
      rw [e2]; exact .refl _
    · have e : (Tm.leaf s).inst σ = .leaf s := if_neg hs
      generalize hx : (Tm.leaf s).inst σ = x at h
      cases h with
      | @top l2 r2 τ hm hτ => exact .inr ⟨0, l2, r2, τ, by simp [Tm.size], Int.not_lt.1 hs, hm, hτ, by rw [sub_zero]; exact hx, rfl⟩
      | un => rw [e] at hx; cases hx
      | left => rw [e] at hx; cases hx
      | right => rw [e] at hx; cases hx
  | .un s a, z, hl, h => by
    have hs : 0 ≤ s := by have := ar_pos (s := s) (by rw [hl.1]; decide); omega
    generalize hx : (Tm.un s a).inst σ = x at h
    have hx' : Tm.un s (a.inst σ) = x := hx
    cases h with
    | @top l2 r2 τ hm hτ => exact .inr ⟨0, l2, r2, τ, by simp [Tm.size], hs, hm, hτ, by rw [sub_zero]; exact hx, rfl⟩
    | left => cases hx'
    | right => cases hx'
    | un s' h =>
      cases hx'
      rcases rw_inst a _ hl.2 h with ⟨v, t, h1, h2, h3, h4⟩ | ⟨k, l2, r2, τ, h1, h2, h3, h4, h5, rfl⟩
      · exact .inl ⟨v, t, h1, by simp [Tm.flat, h2], h3, h4.un s⟩
      · exact .inr ⟨k + 1, l2, r2, τ, by simp [Tm.size]; omega, h2, h3, h4, h5, rfl⟩
  | .bin s a b, z, hl, h => by
    have hs : 0 ≤ s := by have := ar_pos (s := s) (by rw [hl.1]; decide); omega
    generalize hx : (Tm.bin s a b).inst σ = x at h
    have hx' : Tm.bin s (a.inst σ) (b.inst σ) = x := hx
    cases h with
    | @top l2 r2 τ hm hτ => exact .inr ⟨0, l2, r2, τ, by simp [Tm.size], hs, hm, hτ, by rw [sub_zero]; exact hx, rfl⟩
    | un => cases hx'
    | left s' c h =>
      cases hx'
      rcases rw_inst a _ hl.2.1 h with ⟨v, t, h1, h2, h3, h4⟩ | ⟨k, l2, r2, τ, h1, h2, h3, h4, h5, rfl⟩
      · exact .inl ⟨v, t, h1, by simp [Tm.flat, h2], h3, (h4.left s _).trans ((rt_upd h3 b).right s _)⟩
      · refine .inr ⟨k + 1, l2, r2, τ, by simp [Tm.size]; omega, ?_, h3, h4, ?_, ?_⟩
        · show 0 ≤ (if k < a.size then a.sub k else _).sg
          rw [if_pos h1]; exact h2
        · show (if k < a.size then a.sub k else _).inst σ = _
          rw [if_pos h1]; exact h5
        · show _ = if k < a.size then _ else _
          rw [if_pos h1]
    | right s' c h =>
      cases hx'
      rcases rw_inst b _ hl.2.2 h with ⟨v, t, h1, h2, h3, h4⟩ | ⟨k, l2, r2, τ, h1, h2, h3, h4, h5, rfl⟩
      · exact .inl ⟨v, t, h1, by simp [Tm.flat, h2], h3, (h4.right s _).trans ((rt_upd h3 a).left s _)⟩
      · have hk : ¬ a.size + k < a.size := by omega
        refine .inr ⟨a.size + k + 1, l2, r2, τ, by simp [Tm.size]; omega, ?_, h3, h4, ?_, ?_⟩
        · show 0 ≤ (if a.size + k < a.size then _ else b.sub (a.size + k - a.size)).sg
          rw [if_neg hk, Nat.add_sub_cancel_left]; exact h2
        · show (if a.size + k < a.size then _ else b.sub (a.size + k - a.size)).inst σ = _
          rw [if_neg hk, Nat.add_sub_cancel_left]; exact h5
        · show _ = if a.size + k < a.size then _ else Tm.bin s (a.inst σ) (plug σ b (a.size + k - a.size) _)
          rw [if_neg hk, Nat.add_sub_cancel_left]

/-- A rule with its variables made others. -/
def oth (x : Tm) : Tm := x.inst fun v => .leaf (v - 4)
def mix (σ τ : Int → Tm) : Int → Tm := fun v => if v < -4 then τ (v + 4) else σ v
theorem mix_ok {σ τ : Int → Tm} (h : OkS σ) (k : OkS τ) : OkS (mix σ τ) := by
  intro v hv
  unfold mix
  split
  · exact k _ (by omega)
  · exact h v hv
theorem oth_inst (x : Tm) (θ : Int → Tm) : (oth x).inst θ = x.inst fun v => θ (v - 4) := by
  unfold oth
  rw [inst_inst]
  refine inst_congr fun v _ hv => ?_
  show (if v - 4 < 0 then θ (v - 4) else _) = _
  rw [if_pos (by omega)]
theorem oth_mix (x : Tm) (σ τ : Int → Tm) : (oth x).inst (mix σ τ) = x.inst τ := by
  rw [oth_inst]
  refine inst_congr fun v _ hv => ?_
  unfold mix
  rw [if_pos (by omega), Int.sub_add_cancel]
theorem inst_mix {x : Tm} (h : ∀ v ∈ x.flat, -4 ≤ v) (σ τ : Int → Tm) : x.inst (mix σ τ) = x.inst σ := by
  refine inst_congr fun v hv _ => ?_
  unfold mix
  rw [if_neg (by have := h v hv; omega)]
theorem plug_mix {σ τ : Int → Tm} (u : Tm) : ∀ (l : Tm) (k : Nat), (∀ v ∈ l.flat, -4 ≤ v) → k < l.size → plug σ l k (u.inst τ) = (l.put k (oth u)).inst (mix σ τ)
  | l, 0, _, _ => by
    rw [put_zero, oth_mix]
    cases l <;> rfl
  | .leaf s, k + 1, _, hk => by simp [Tm.size] at hk
  | .un s a, k + 1, ho, hk => by
    show Tm.un s _ = Tm.un s _
    rw [plug_mix u a k (fun v hv => ho v (by simp [Tm.flat, hv])) (by simp [Tm.size] at hk; omega)]
  | .bin s a b, k + 1, ho, hk => by
    have h1 : ∀ v ∈ a.flat, -4 ≤ v := fun v hv => ho v (by simp [Tm.flat, hv])
    have h2 : ∀ v ∈ b.flat, -4 ≤ v := fun v hv => ho v (by simp [Tm.flat, hv])
    show (if k < a.size then Tm.bin s (plug σ a k (u.inst τ)) (b.inst σ) else Tm.bin s (a.inst σ) (plug σ b (k - a.size) (u.inst τ))) = (if k < a.size then Tm.bin s (a.put k (oth u)) b else Tm.bin s a (b.put (k - a.size) (oth u))).inst (mix σ τ)
    split
    · show _ = Tm.bin s _ _
      rw [plug_mix u a k h1 (by assumption), inst_mix h2]
    · show _ = Tm.bin s _ _
      rw [plug_mix u b _ h2 (by simp [Tm.size] at hk; omega), inst_mix h1]

theorem inst_inj {σ τ : Int → Tm} : ∀ {x : Tm}, x.ok → x.inst σ = x.inst τ → ∀ v ∈ x.flat, v < 0 → σ v = τ v
  | .leaf s, _, h, v, hv, h0 => by
    simp [Tm.flat] at hv
    subst hv
    have h' : (if v < 0 then σ v else .leaf v) = (if v < 0 then τ v else .leaf v) := h
    rwa [if_pos h0, if_pos h0] at h'
  | .un s a, ho, h, v, hv, h0 => by
    have h' : Tm.un s (a.inst σ) = .un s (a.inst τ) := h
    simp only [Tm.un.injEq, true_and] at h'
    simp [Tm.flat] at hv
    rcases hv with rfl | hv
    · have := ar_pos (s := v) (by rw [ho.1]; decide); omega
    · exact inst_inj ho.2 h' v hv h0
  | .bin s a b, ho, h, v, hv, h0 => by
    have h' : Tm.bin s (a.inst σ) (b.inst σ) = .bin s (a.inst τ) (b.inst τ) := h
    simp only [Tm.bin.injEq, true_and] at h'
    simp [Tm.flat] at hv
    rcases hv with rfl | hv | hv
    · have := ar_pos (s := v) (by rw [ho.1]; decide); omega
    · exact inst_inj ho.2.1 h'.1 v hv h0
    · exact inst_inj ho.2.2 h'.2 v hv h0

/-- Each pair of rules laid over each other is joined below. -/
def CPs (rk : Int → Int) (R : Rl) : Prop := ∀ l1 r1 l2 r2 k θ, (l1, r1) ∈ R → (l2, r2) ∈ R → k < l1.size → 0 ≤ (l1.sub k).sg → ¬ (k = 0 ∧ (l1, r1) = (l2, r2)) → OkS θ →
  (l1.sub k).inst θ = (oth l2).inst θ → Conn rk R (l1.inst θ) ((l1.put k (oth r2)).inst θ) (r1.inst θ)

theorem peak_root (hF : Falls rk R) (hC : CPs rk R) {l1 r1 z : Tm} {σ : Int → Tm} (hm : (l1, r1) ∈ R) (hσ : OkS σ) (h : Rw R (l1.inst σ) z) : Conn rk R (l1.inst σ) (r1.inst σ) z := by
  have hl := hF.okl _ _ hm
  have hr := hF.okr _ _ hm
  have ho := hF.own _ _ hm
  have hlo := inst_ok hσ hl
  have hdz := h.down hF hlo
  have hdr : gt rk (l1.inst σ) (r1.inst σ) = true := gt_inst σ (hF.gt _ _ hm)
  have hro := inst_ok hσ hr
  rcases rw_inst l1 z hl h with ⟨v, t, h1, h2, h3, h4⟩ | ⟨k, l2, r2, τ, h1, h2, h3, h4, h5, rfl⟩
  · have ht := (h3.down hF (hσ v h1)).2
    have c1 := Conn.of_rt (rk := rk) (u := l1.inst σ) hF (rt_upd h3 r1) hro hdr
    have c2 := Conn.of_rt (rk := rk) (u := l1.inst σ) hF (h4.trans (.one (.top (upd σ v t) hm (upd_ok hσ ht)))) hdz.2 hdz.1
    exact c1.trans c2.symm
  · by_cases hsame : k = 0 ∧ (l1, r1) = (l2, r2)
    · obtain ⟨rfl, e⟩ := hsame
      cases e
      rw [sub_zero] at h5
      have e2 : r1.inst σ = r1.inst τ := inst_congr fun v hv h0 => inst_inj hl h5 v (hF.var _ _ hm v hv h0) h0
      have e3 : plug σ l1 0 (r1.inst τ) = r1.inst τ := by cases l1 <;> rfl
      rw [e3, ← e2]
      exact .refl hro hdr
    · have hc := hC l1 r1 l2 r2 k (mix σ τ) hm h3 h1 h2 hsame (mix_ok hσ h4) (by
        rw [oth_mix, ← h5]
        refine inst_mix (fun v hv => ho v ?_) σ τ
        obtain ⟨pre, r, -, e, -⟩ := sub_split l1 k h1
        rw [e]; simp [hv])
      have ho2 : ∀ v ∈ r1.flat, -4 ≤ v := fun v hv => by
        by_cases h0 : v < 0
        · exact ho v (hF.var _ _ hm v hv h0)
        · omega
      rw [inst_mix ho σ τ, inst_mix ho2 σ τ, ← plug_mix r2 l1 k ho h1] at hc
      exact hc.symm

theorem peaks_of (hF : Falls rk R) (hC : CPs rk R) : Peaks rk R := by
  intro w y z hw h1
  induction h1 generalizing z with
  | top σ hm hσ => intro h2; exact peak_root hF hC hm hσ h2
  | @un a b s h ih =>
    intro h2
    generalize hx : Tm.un s a = x at h2
    cases h2 with
    | @top l2 r2 τ hm hτ => exact (peak_root hF hC hm hτ (hx ▸ Rw.un s h)).symm
    | left => cases hx
    | right => cases hx
    | un s' h' => cases hx; exact (ih _ hw.2 h').un hw.1
  | @left a b s c h ih =>
    intro h2
    generalize hx : Tm.bin s a c = x at h2
    cases h2 with
    | @top l2 r2 τ hm hτ => exact (peak_root hF hC hm hτ (hx ▸ Rw.left s c h)).symm
    | un => cases hx
    | left s' c' h' => cases hx; exact (ih _ hw.2.1 h').left hw.1 hw.2.2
    | @right c2 d s' a' h' =>
      cases hx
      have d1 := (Rw.left s c h).down hF hw
      have d2 := (Rw.right s a h').down hF hw
      exact .fwd d1.2 d1.1 (.right s b h') (.bwd (Rw.right s b h' |>.down hF d1.2).2 (gt_trans d1.1 (Rw.right s b h' |>.down hF d1.2).1) (.left s _ h) (.refl d2.2 d2.1))
  | @right a b s c h ih =>
    intro h2
    generalize hx : Tm.bin s c a = x at h2
    cases h2 with
    | @top l2 r2 τ hm hτ => exact (peak_root hF hC hm hτ (hx ▸ Rw.right s c h)).symm
    | un => cases hx
    | right s' c' h' => cases hx; exact (ih _ hw.2.2 h').right hw.1 hw.2.1
    | @left c2 d s' a' h' =>
      cases hx
      have d1 := (Rw.right s c h).down hF hw
      have d2 := (Rw.left s a h').down hF hw
      exact .fwd d1.2 d1.1 (.left s b h') (.bwd (Rw.left s b h' |>.down hF d1.2).2 (gt_trans d1.1 (Rw.left s b h' |>.down hF d1.2).1) (.right s _ h) (.refl d2.2 d2.1))

end Go.Proofs.Ytepddehodmljeaa

namespace Go.Proofs.Ytepddehodmljeaa

variable {rk : Int → Int} {F : Rl}

theorem rw_put {R : Rl} {a b : Tm} (h : Rw R a b) : ∀ (x : Tm) (k : Nat), k < x.size → Rw R (x.put k a) (x.put k b)
  | x, 0, _ => by rw [put_zero, put_zero]; exact h
  | .leaf s, k + 1, hk => by simp [Tm.size] at hk
  | .un s x, k + 1, hk => .un s (rw_put h x k (by simp [Tm.size] at hk; omega))
  | .bin s x y, k + 1, hk => by
    show Rw R (if k < x.size then _ else _) (if k < x.size then _ else _)
    by_cases hkx : k < x.size
    · rw [if_pos hkx, if_pos hkx]; exact .left s y (rw_put h x k hkx)
    · rw [if_neg hkx, if_neg hkx]; exact .right s x (rw_put h y _ (by simp [Tm.size] at hk; omega))
theorem rt_put {R : Rl} {a b : Tm} (h : Rt R a b) (x : Tm) (k : Nat) (hk : k < x.size) : Rt R (x.put k a) (x.put k b) := by
  induction h with
  | refl => exact .refl _
  | step h _ ih => exact .step (rw_put h x k hk) ih
theorem rw_inst' {R : Rl} {θ : Int → Tm} (hθ : OkS θ) {a b : Tm} (h : Rw R a b) : a.ok → Rw R (a.inst θ) (b.inst θ) := by
  induction h with
  | top σ hm hσ =>
    intro _
    rw [inst_inst, inst_inst]
    exact .top _ hm fun v hv => inst_ok hθ (hσ v hv)
  | un s _ ih => intro ho; exact .un s (ih ho.2)
  | left s c _ ih => intro ho; exact .left s _ (ih ho.2.1)
  | right s c _ ih => intro ho; exact .right s _ (ih ho.2.2)
theorem put_size' {x : Tm} {k : Nat} (hk : k < x.size) (u : Tm) : k + u.size ≤ (x.put k u).size := by
  have h1 := put_size hk u
  have h2 := sub_size hk
  omega
theorem put_put : ∀ (x : Tm) (k : Nat) (c : Tm) (j : Nat) (y : Tm), k < x.size → j < c.size → (x.put k c).put (k + j) y = x.put k (c.put j y)
  | x, 0, c, j, y, _, _ => by rw [put_zero, put_zero, Nat.zero_add]
  | .leaf s, k + 1, c, j, y, hk, _ => by simp [Tm.size] at hk
  | .un s x, k + 1, c, j, y, hk, hj => by
    have e : k + 1 + j = (k + j) + 1 := by omega
    rw [e]
    show Tm.un s _ = Tm.un s _
    rw [put_put x k c j y (by simp [Tm.size] at hk; omega) hj]
  | .bin s x z, k + 1, c, j, y, hk, hj => by
    have e : k + 1 + j = (k + j) + 1 := by omega
    rw [e]
    by_cases hkx : k < x.size
    · have e1 : ∀ u, (Tm.bin s x z).put (k + 1) u = .bin s (x.put k u) z := fun u => by show (if k < x.size then _ else _) = _; rw [if_pos hkx]
      rw [e1, e1]
      have h1 := put_size' hkx c
      show (if k + j < (x.put k c).size then _ else _) = _
      rw [if_pos (by omega), put_put x k c j y hkx hj]
    · have e1 : ∀ u, (Tm.bin s x z).put (k + 1) u = .bin s x (z.put (k - x.size) u) := fun u => by show (if k < x.size then _ else _) = _; rw [if_neg hkx]
      rw [e1, e1]
      show (if k + j < x.size then _ else Tm.bin s x ((z.put (k - x.size) c).put (k + j - x.size) y)) = _
      rw [if_neg (by omega), show k + j - x.size = (k - x.size) + j by omega, put_put z _ c j y (by simp [Tm.size] at hk; omega) hj]

/-- Two terms are joined by the last rules below whatever both are below, wherever they stand, whatever variables become. -/
def Gd (rk : Int → Int) (F : Rl) (a b : Tm) : Prop := ∀ (x : Tm) (k : Nat) (θ : Int → Tm) (u : Tm), x.ok → k < x.size → OkS θ → gt rk u (x.put k (a.inst θ)) = true → gt rk u (x.put k (b.inst θ)) = true →
  Conn rk F u (x.put k (a.inst θ)) (x.put k (b.inst θ))
def GdAll (rk : Int → Int) (F : Rl) (E : Rl) : Prop := ∀ a b, (a, b) ∈ E → Gd rk F a b

theorem Gd.symm {a b : Tm} (h : Gd rk F a b) : Gd rk F b a := fun _ _ _ _ h1 h2 h3 h4 h5 => (h _ _ _ _ h1 h2 h3 h5 h4).symm
theorem Gd.refl {a : Tm} (ha : a.ok) : Gd rk F a a := fun _ _ _ _ h1 h2 h3 h4 _ => .refl (put_ok h1 (inst_ok h3 ha) h2) h4
theorem gd_rule (hF : Falls rk F) {l r : Tm} (h : (l, r) ∈ F) : Gd rk F l r := fun x k θ _ h1 h2 h3 h4 h5 =>
  .fwd (put_ok h1 (inst_ok h3 (hF.okl _ _ h)) h2) h4 (rw_put (.top θ h h3) x k h2) (.refl (put_ok h1 (inst_ok h3 (hF.okr _ _ h)) h2) h5)
/-- Of another name. -/
theorem Gd.inst {a b : Tm} (h : Gd rk F a b) {ρ : Int → Tm} (hρ : OkS ρ) : Gd rk F (a.inst ρ) (b.inst ρ) := by
  intro x k θ u h1 h2 h3 h4 h5
  simp only [inst_inst] at h4 h5 ⊢
  exact h x k _ u h1 h2 (fun v hv => inst_ok h3 (hρ v hv)) h4 h5
theorem gd_rw {R : Rl} (hR : GdAll rk F R) {a b : Tm} (h : Rw R a b) : a.ok → Gd rk F a b := by
  induction h with
  | top σ hm hσ => intro _; exact (hR _ _ hm).inst hσ
  | @un a b s h ih =>
    intro ho x k θ u h1 h2 h3 h4 h5
    have e : ∀ y : Tm, x.put k ((Tm.un s y).inst θ) = (x.put k ((Tm.un s a).inst θ)).put (k + 1) (y.inst θ) := fun y => by
      rw [put_put x k _ 1 _ h2 (by simp [Tm.inst, Tm.size]; have := size_pos (a.inst θ); omega)]
      show _ = x.put k (Tm.un s ((a.inst θ).put 0 _))
      rw [put_zero]; rfl
    have hk : k + 1 < (x.put k ((Tm.un s a).inst θ)).size := by
      have h6 := put_size' h2 ((Tm.un s a).inst θ)
      have h7 := size_pos (a.inst θ)
      have h8 : ((Tm.un s a).inst θ).size = (a.inst θ).size + 1 := rfl
      omega
    have hx := put_ok h1 (inst_ok h3 ho) h2
    rw [e b] at h5 ⊢
    have e' := e a
    have := ih ho.2 _ _ θ u hx hk h3 (by rw [← e']; exact h4) h5
    rw [← e'] at this
    exact this
  | @left a b s c h ih =>
    intro ho x k θ u h1 h2 h3 h4 h5
    have e : ∀ y : Tm, x.put k ((Tm.bin s y c).inst θ) = (x.put k ((Tm.bin s a c).inst θ)).put (k + 1) (y.inst θ) := fun y => by
      rw [put_put x k _ 1 _ h2 (by simp [Tm.inst, Tm.size]; have := size_pos (a.inst θ); omega)]
      show _ = x.put k (if 0 < (a.inst θ).size then Tm.bin s ((a.inst θ).put 0 _) _ else _)
      rw [if_pos (size_pos _), put_zero]; rfl
    have hk : k + 1 < (x.put k ((Tm.bin s a c).inst θ)).size := by
      have h6 := put_size' h2 ((Tm.bin s a c).inst θ)
      have h7 := size_pos (a.inst θ)
      have h8 : ((Tm.bin s a c).inst θ).size = (a.inst θ).size + (c.inst θ).size + 1 := rfl
      omega
    have hx := put_ok h1 (inst_ok h3 ho) h2
    rw [e b] at h5 ⊢
    have e' := e a
    have := ih ho.2.1 _ _ θ u hx hk h3 (by rw [← e']; exact h4) h5
    rw [← e'] at this
    exact this
  | @right a b s c h ih =>
    intro ho x k θ u h1 h2 h3 h4 h5
    have e : ∀ y : Tm, x.put k ((Tm.bin s c y).inst θ) = (x.put k ((Tm.bin s c a).inst θ)).put (k + ((c.inst θ).size + 1)) (y.inst θ) := fun y => by
      rw [put_put x k _ _ _ h2 (by simp [Tm.inst, Tm.size]; have := size_pos (a.inst θ); omega)]
      show _ = x.put k (if (c.inst θ).size < (c.inst θ).size then _ else Tm.bin s (c.inst θ) ((a.inst θ).put ((c.inst θ).size - (c.inst θ).size) _))
      rw [if_neg (Nat.lt_irrefl _), Nat.sub_self, put_zero]; rfl
    have hk : k + ((c.inst θ).size + 1) < (x.put k ((Tm.bin s c a).inst θ)).size := by
      have h6 := put_size' h2 ((Tm.bin s c a).inst θ)
      have h7 := size_pos (a.inst θ)
      have h8 : ((Tm.bin s c a).inst θ).size = (c.inst θ).size + (a.inst θ).size + 1 := rfl
      omega
    have hx := put_ok h1 (inst_ok h3 ho) h2
    rw [e b] at h5 ⊢
    have e' := e a
    have := ih ho.2.2 _ _ θ u hx hk h3 (by rw [← e']; exact h4) h5
    rw [← e'] at this
    exact this
theorem Gd.trans_down {a b c : Tm} (hab : gt rk a b = true) (h : Gd rk F a b) (k : Gd rk F b c) : Gd rk F a c := by
  intro x j θ u h1 h2 h3 h4 h5
  have h6 := gt_trans h4 (gt_put (gt_inst θ hab) x j h1 h2)
  exact (h x j θ u h1 h2 h3 h4 h6).trans (k x j θ u h1 h2 h3 h6 h5)
theorem gd_rt {R : Rl} (hf : Falls rk R) (hR : GdAll rk F R) {a b : Tm} (h : Rt R a b) : a.ok → Gd rk F a b := by
  induction h with
  | refl => exact fun ha => .refl ha
  | step h _ ih => intro ha; exact Gd.trans_down (h.down hf ha).1 (gd_rw hR h ha) (ih (h.down hf ha).2)
theorem rt_le {R : Rl} (hf : Falls rk R) {a b : Tm} (h : Rt R a b) : a.ok → b = a ∨ gt rk a b = true := by
  induction h with
  | refl => exact fun _ => .inl rfl
  | @step a b c h _ ih =>
    intro ha
    have hd := h.down hf ha
    rcases ih hd.2 with rfl | h3
    · exact .inr hd.1
    · exact .inr (gt_trans hd.1 h3)
/-- Both sides of a pair go to two terms that are joined: the pair is. -/
theorem gd_pair {R : Rl} (hf : Falls rk R) (hR : GdAll rk F R) {p q a b : Tm} (hp : p.ok) (hq : q.ok) (h1 : Rt R p a) (h2 : Rt R q b) (h : Gd rk F a b) : Gd rk F p q := by
  intro x j θ u g1 g2 g3 g4 g5
  have k1 : gt rk u (x.put j (a.inst θ)) = true := by
    rcases rt_le hf h1 hp with rfl | e
    · exact g4
    · exact gt_trans g4 (gt_put (gt_inst θ e) x j g1 g2)
  have k2 : gt rk u (x.put j (b.inst θ)) = true := by
    rcases rt_le hf h2 hq with rfl | e
    · exact g5
    · exact gt_trans g5 (gt_put (gt_inst θ e) x j g1 g2)
  exact ((gd_rt hf hR h1 hp x j θ u g1 g2 g3 g4 k1).trans (h x j θ u g1 g2 g3 k1 k2)).trans (gd_rt hf hR h2 hq x j θ u g1 g2 g3 g5 k2).symm

end Go.Proofs.Ytepddehodmljeaa

namespace Go.Proofs.Ytepddehodmljeaa

/-- To what variables are bound. -/
abbrev Bn := Int → Option Tm
def Sat (θ : Int → Tm) (β : Bn) : Prop := ∀ v t, β v = some t → θ v = t.inst θ
/-- Nothing stands in itself: r tells how deep. -/
def Rnk (r : Int → Nat) (β : Bn) : Prop := ∀ v t, β v = some t → ∀ u ∈ t.flat, u < 0 → r u < r v

def Tm.vr (x : Tm) (v : Int) : Prop := v ∈ x.flat ∧ v < 0

theorem mem_inst {θ : Int → Tm} {w : Int} : ∀ {x : Tm}, w < 0 → x.ok → (w ∈ (x.inst θ).flat ↔ ∃ u, u < 0 ∧ u ∈ x.flat ∧ w ∈ (θ u).flat)
  | .leaf s, hw, _ => by
    by_cases hs : s < 0
    · have e : (Tm.leaf s).inst θ = θ s := if_pos hs
      rw [e]
      constructor
      · intro h; exact ⟨s, hs, by simp [Tm.flat], h⟩
      · rintro ⟨u, _, hu, h⟩; simp [Tm.flat] at hu; subst hu; exact h
    · have e : (Tm.leaf s).inst θ = .leaf s := if_neg hs
      rw [e]
      constructor
      · intro h; simp [Tm.flat] at h; omega
      · rintro ⟨u, hu0, hu, _⟩; simp [Tm.flat] at hu; omega
  | .un s a, hw, ho => by
    have hs := ar_pos (s := s) (by rw [ho.1]; decide)
    have ih := mem_inst (θ := θ) (x := a) hw ho.2
    show w ∈ s :: (a.inst θ).flat ↔ _
    rw [List.mem_cons, ih]
    constructor
    · rintro (h | ⟨u, h1, h2, h3⟩)
      · omega
      · exact ⟨u, h1, by simp [Tm.flat, h2], h3⟩
    · rintro ⟨u, h1, h2, h3⟩
      simp [Tm.flat] at h2
      rcases h2 with h2 | h2
      · omega
      · exact .inr ⟨u, h1, h2, h3⟩
  | .bin s a b, hw, ho => by
    have hs := ar_pos (s := s) (by rw [ho.1]; decide)
    have iha := mem_inst (θ := θ) (x := a) hw ho.2.1
    have ihb := mem_inst (θ := θ) (x := b) hw ho.2.2
    show w ∈ s :: ((a.inst θ).flat ++ (b.inst θ).flat) ↔ _
    rw [List.mem_cons, List.mem_append, iha, ihb]
    constructor
    · rintro (h | ⟨u, h1, h2, h3⟩ | ⟨u, h1, h2, h3⟩)
      · omega
      · exact ⟨u, h1, by simp [Tm.flat, h2], h3⟩
      · exact ⟨u, h1, by simp [Tm.flat, h2], h3⟩
    · rintro ⟨u, h1, h2, h3⟩
      simp [Tm.flat] at h2
      rcases h2 with h2 | h2 | h2
      · omega
      · exact .inr (.inl ⟨u, h1, h2, h3⟩)
      · exact .inr (.inr ⟨u, h1, h2, h3⟩)

/-- What bindings come to, n steps deep. -/
def seqB (β : Bn) : Nat → Int → Tm
  | 0, v => .leaf v
  | n + 1, v => match β v with
    | some t => t.inst (seqB β n)
    | none => .leaf v
theorem seqB_stable {β : Bn} {r : Int → Nat} (hr : Rnk r β) : ∀ (n : Nat) (v : Int), r v < n → seqB β n v = seqB β (r v + 1) v := by
  intro n
  induction n using Nat.strongRecOn with
  | ind n ih =>
    intro v hv
    obtain ⟨m, rfl⟩ : ∃ m, n = m + 1 := ⟨n - 1, by omega⟩
    show (match β v with | some t => t.inst (seqB β m) | none => .leaf v) = (match β v with | some t => t.inst (seqB β (r v)) | none => .leaf v)
    cases hb : β v with
    | none => rfl
    | some t =>
      refine inst_congr fun u hu h0 => ?_
      have h1 := hr v t hb u hu h0
      rw [ih m (by omega) u (by omega)]
      by_cases h2 : r v = m + 1
      · omega
      · rw [ih (r v) (by omega) u h1]

/-- What all variables are, in the end: free ones themselves. -/
structure Res (β : Bn) (θ : Int → Tm) : Prop where
  sat : Sat θ β
  free : ∀ v, β v = none → θ v = .leaf v

theorem exists_res {β : Bn} {r : Int → Nat} (hr : Rnk r β) (hk : ∀ v t, β v = some t → v < 0 ∧ t.ok) : ∃ θ, Res β θ ∧ OkS θ := by
  refine ⟨fun v => seqB β (r v + 1) v, ⟨fun v t h => ?_, fun v h => ?_⟩, ?_⟩
  · show (match β v with | some t => t.inst (seqB β (r v)) | none => .leaf v) = _
    rw [h]
    exact inst_congr fun u hu h0 => seqB_stable hr (r v) u (hr v t h u hu h0)
  · show (match β v with | some t => t.inst (seqB β (r v)) | none => .leaf v) = _
    rw [h]
  · have : ∀ n v, v < 0 → (seqB β n v).ok := by
      intro n
      induction n with
      | zero => intro v hv; show ar v = 0; unfold ar; rw [if_pos (by omega)]
      | succ n ih =>
        intro v hv
        show (match β v with | some t => t.inst (seqB β n) | none => .leaf v).ok
        cases hb : β v with
        | none => show ar v = 0; unfold ar; rw [if_pos (by omega)]
        | some t => exact inst_ok ih (hk v t hb).2
    exact fun v hv => this _ v hv

/-- Whoever satisfies bindings is made of what they come to. -/
theorem res_most {β : Bn} {r : Int → Nat} (hr : Rnk r β) {θ : Int → Tm} (hθ : Res β θ) {θ' : Int → Tm} (h : Sat θ' β) : ∀ v, v < 0 → (θ v).inst θ' = θ' v := by
  have main : ∀ n v, v < 0 → r v < n → (θ v).inst θ' = θ' v := by
    intro n
    induction n with
    | zero => intro v _ h; omega
    | succ n ih =>
      intro v hv hn
      cases hb : β v with
      | none =>
        rw [hθ.free v hb]
        show (if v < 0 then θ' v else _) = _
        rw [if_pos hv]
      | some t =>
        rw [hθ.sat v t hb, inst_inst, h v t hb]
        exact inst_congr fun u hu h0 => ih u h0 (by have := hr v t hb u hu h0; omega)
  exact fun v hv => main (r v + 1) v hv (by omega)
theorem res_inst {β : Bn} {r : Int → Nat} (hr : Rnk r β) {θ : Int → Tm} (hθ : Res β θ) {θ' : Int → Tm} (h : Sat θ' β) (x : Tm) : (x.inst θ).inst θ' = x.inst θ' := by
  rw [inst_inst]; exact inst_congr fun u _ h0 => res_most hr hθ h u h0

/-- One more variable bound. -/
def bnd (β : Bn) (v : Int) (t : Tm) : Bn := fun u => if u = v then some t else β u
theorem bnd_sat {β : Bn} {v : Int} {t : Tm} {θ' : Int → Tm} (hf : β v = none) : Sat θ' (bnd β v t) ↔ Sat θ' β ∧ θ' v = t.inst θ' := by
  constructor
  · intro h
    refine ⟨fun u s hu => h u s ?_, h v t (by simp [bnd])⟩
    have : u ≠ v := by rintro rfl; rw [hf] at hu; cases hu
    simp [bnd, this, hu]
  · rintro ⟨h1, h2⟩ u s hu
    unfold bnd at hu
    split at hu
    · rename_i e; subst e; cases hu; exact h2
    · exact h1 u s hu
theorem le_sum {f : Int → Nat} : ∀ (l : List Int) (u : Int), u ∈ l → f u ≤ (l.map f).sum
  | [], _, h => by cases h
  | a :: l, u, h => by
    rw [List.map_cons, List.sum_cons]
    rcases List.mem_cons.1 h with rfl | h
    · omega
    · have := le_sum (f := f) l u h; omega
theorem bnd_rnk {β : Bn} {r : Int → Nat} (hr : Rnk r β) (hk : ∀ v t, β v = some t → v < 0 ∧ t.ok) {θ : Int → Tm} (hθ : Res β θ) {v : Int} {t : Tm} (hv : v < 0) (hf : β v = none) (ht : t.ok) (hn : v ∉ (t.inst θ).flat) : ∃ r', Rnk r' (bnd β v t) := by
  classical
  refine ⟨fun u => if v ∈ (θ u).flat then r u + ((t.flat.map r).sum + 1) else r u, fun u s hu w hw h0 => ?_⟩
  simp only
  unfold bnd at hu
  split at hu
  · rename_i e
    subst e
    cases hu
    have h1 : u ∈ (θ u).flat := by rw [hθ.free u hf]; simp [Tm.flat]
    have h2 : u ∉ (θ w).flat := fun h => hn ((mem_inst hv ht).2 ⟨w, h0, hw, h⟩)
    rw [if_neg h2, if_pos h1]
    have := le_sum (f := r) t.flat w hw
    omega
  · have h3 := hr u s hu w hw h0
    have hs := (hk u s hu).2
    by_cases h1 : v ∈ (θ w).flat
    · have h2 : v ∈ (θ u).flat := by rw [hθ.sat u s hu]; exact (mem_inst hv hs).2 ⟨w, h0, hw, h1⟩
      rw [if_pos h1, if_pos h2]; omega
    · rw [if_neg h1]
      split <;> omega

theorem inst_size_var {θ : Int → Tm} {v : Int} (hv : v < 0) : ∀ {x : Tm}, x.ok → v ∈ x.flat → (θ v).size ≤ (x.inst θ).size ∧ (0 ≤ x.sg → (θ v).size < (x.inst θ).size)
  | .leaf s, _, h => by
    simp [Tm.flat] at h
    subst h
    have e : (Tm.leaf v).inst θ = θ v := if_pos hv
    rw [e]
    exact ⟨Nat.le_refl _, fun h => by have h' : 0 ≤ v := h; omega⟩
  | .un s a, ho, h => by
    have hs := ar_pos (s := s) (by rw [ho.1]; decide)
    simp [Tm.flat] at h
    rcases h with h | h
    · omega
    · have := (inst_size_var (θ := θ) hv ho.2 h).1
      have e : ((Tm.un s a).inst θ).size = (a.inst θ).size + 1 := rfl
      exact ⟨by omega, fun _ => by omega⟩
  | .bin s a b, ho, h => by
    have hs := ar_pos (s := s) (by rw [ho.1]; decide)
    have e : ((Tm.bin s a b).inst θ).size = (a.inst θ).size + (b.inst θ).size + 1 := rfl
    simp [Tm.flat] at h
    rcases h with h | h | h
    · omega
    · have := (inst_size_var (θ := θ) hv ho.2.1 h).1; exact ⟨by omega, fun _ => by omega⟩
    · have := (inst_size_var (θ := θ) hv ho.2.2 h).1; exact ⟨by omega, fun _ => by omega⟩
/-- A variable that stands in a symbol's term never becomes that. -/
theorem occurs_no {β : Bn} {r : Int → Nat} (hr : Rnk r β) {θ : Int → Tm} (hθ : Res β θ) (ho : OkS θ) {v : Int} {t : Tm} (hv : v < 0) (ht : t.ok) (h0 : 0 ≤ t.sg) (hn : v ∈ (t.inst θ).flat)
    {θ' : Int → Tm} (h : Sat θ' β) : θ' v ≠ t.inst θ' := by
  intro e
  have h1 := res_inst hr hθ h t
  have h2 : 0 ≤ (t.inst θ).sg := by rw [(parts_inst θ h0).2]; exact h0
  have h3 := (inst_size_var (θ := θ') hv (inst_ok ho ht) hn).2 h2
  rw [h1, ← e] at h3
  omega

/-- The most general way to make pairs the same, with the greatest variables. -/
structure Mgu (l : List (Tm × Tm)) (θ : Int → Tm) : Prop where
  ok : OkS θ
  same : ∀ p ∈ l, p.1.inst θ = p.2.inst θ
  most : ∀ θ', (∀ p ∈ l, p.1.inst θ' = p.2.inst θ') → ∀ v, v < 0 → (θ v).inst θ' = θ' v
  great : ∀ v w, v < 0 → w < 0 → θ v = .leaf w → v ≤ w

theorem Mgu.twice {l : List (Tm × Tm)} {θ : Int → Tm} (h : Mgu l θ) : ∀ v, v < 0 → (θ v).inst θ = θ v := h.most θ h.same
theorem Mgu.unique {l m : List (Tm × Tm)} {θ τ : Int → Tm} (h : Mgu l θ) (k : Mgu m τ) (hlm : ∀ θ', (∀ p ∈ l, p.1.inst θ' = p.2.inst θ') ↔ (∀ p ∈ m, p.1.inst θ' = p.2.inst θ')) : ∀ v, v < 0 → θ v = τ v := by
  intro v hv
  have h1 := h.most τ ((hlm τ).2 k.same)
  have h2 := k.most θ ((hlm θ).1 h.same)
  have h3 : ((θ v).inst τ).inst θ = (θ v).inst .leaf := by rw [h1 v hv, h2 v hv, inst_self _ (h.ok v hv)]
  rw [inst_inst] at h3
  have h4 : ∀ w ∈ (θ v).flat, w < 0 → τ w = .leaf w := by
    intro w hw h0
    have h5 : (τ w).inst θ = .leaf w := inst_inj (h.ok v hv) h3 w hw h0
    cases hτ : τ w with
    | un s a => rw [hτ] at h5; cases h5
    | bin s a b => rw [hτ] at h5; cases h5
    | leaf s =>
      rw [hτ] at h5
      by_cases hs : s < 0
      · have e : (Tm.leaf s).inst θ = θ s := if_pos hs
        rw [e] at h5
        have a1 := k.great w s h0 hs hτ
        have a2 := h.great s w hs h0 h5
        have : s = w := by omega
        rw [this]
      · have e : (Tm.leaf s).inst θ = .leaf s := if_neg hs
        rw [e] at h5
        cases h5
        omega
  rw [← h1 v hv]
  have h6 : (θ v).inst τ = (θ v).inst .leaf := inst_congr fun w hw h0 => h4 w hw h0
  rw [h6, inst_self _ (h.ok v hv)]

end Go.Proofs.Ytepddehodmljeaa

namespace Go.Proofs.Ytepddehodmljeaa

/-- Bindings that are right, and what all comes to by them. -/
structure St (β : Bn) (θ : Int → Tm) : Prop where
  rk : ∃ r, Rnk r β
  key : ∀ v t, β v = some t → v < 0 ∧ t.ok
  low : ∀ v t, β v = some t → -8 ≤ v ∧ (∀ s ∈ t.flat, -8 ≤ s ∧ s < 6) ∧ t.size ≤ 30
  res : Res β θ
  ok : OkS θ
  up : ∀ v w, β v = some (.leaf w) → w < 0 → v < w

theorem St.start : St (fun _ => none) .leaf where
  rk := ⟨fun _ => 0, fun _ _ h => by cases h⟩
  key := fun _ _ h => by cases h
  low := fun _ _ h => by cases h
  res := ⟨fun _ _ h => (by cases h), fun _ _ => rfl⟩
  ok := fun v hv => by show ar v = 0; unfold ar; rw [if_pos (by omega)]
  up := fun _ _ h => by cases h

def isN (o : Option Tm) : Nat := match o with | none => 1 | some _ => 0
/-- How many are free. -/
def fr (β : Bn) : Nat := isN (β (-1)) + isN (β (-2)) + isN (β (-3)) + isN (β (-4)) + isN (β (-5)) + isN (β (-6)) + isN (β (-7)) + isN (β (-8))
theorem fr_bnd {β : Bn} {v : Int} {t : Tm} (h1 : -8 ≤ v) (h2 : v < 0) (hf : β v = none) : fr (bnd β v t) < fr β := by
  have h : ∀ u, isN (bnd β v t u) = if u = v then 0 else isN (β u) := by
    intro u
    unfold bnd
    split <;> rfl
  have hv : isN (β v) = 1 := by rw [hf]; rfl
  unfold fr
  simp only [h]
  rcases (by omega : v = -1 ∨ v = -2 ∨ v = -3 ∨ v = -4 ∨ v = -5 ∨ v = -6 ∨ v = -7 ∨ v = -8) with rfl | rfl | rfl | rfl | rfl | rfl | rfl | rfl <;> simp [hv] <;> omega

theorem St.bind {β : Bn} {θ : Int → Tm} (h : St β θ) {v : Int} {t : Tm} (h8 : -8 ≤ v) (hv : v < 0) (hf : β v = none) (ht : t.ok) (hs : ∀ s ∈ t.flat, -8 ≤ s ∧ s < 6) (hl : t.size ≤ 30) (hn : v ∉ (t.inst θ).flat)
    (hu : ∀ w, t = .leaf w → w < 0 → v < w) : ∃ θ', St (bnd β v t) θ' := by
  obtain ⟨r, hr⟩ := h.rk
  obtain ⟨r', hr'⟩ := bnd_rnk hr h.key h.res hv hf ht hn
  have hk : ∀ u s, bnd β v t u = some s → (u = v ∧ s = t) ∨ β u = some s := by
    intro u s hus
    unfold bnd at hus
    split at hus
    · cases hus; exact .inl ⟨by assumption, rfl⟩
    · exact .inr hus
  have hkey : ∀ u s, bnd β v t u = some s → u < 0 ∧ s.ok := fun u s hus => by
    rcases hk u s hus with ⟨rfl, rfl⟩ | h1
    · exact ⟨hv, ht⟩
    · exact h.key u s h1
  obtain ⟨θ', h1, h2⟩ := exists_res hr' hkey
  refine ⟨θ', ⟨r', hr'⟩, hkey, fun u s hus => ?_, h1, h2, fun u w hus h0 => ?_⟩
  · rcases hk u s hus with ⟨rfl, rfl⟩ | h3
    · exact ⟨h8, hs, hl⟩
    · exact h.low u s h3
  · rcases hk u _ hus with ⟨rfl, h3⟩ | h3
    · exact hu w h3.symm h0
    · exact h.up u w h3 h0

theorem St.great {β : Bn} {θ : Int → Tm} (h : St β θ) : ∀ v w, v < 0 → w < 0 → θ v = .leaf w → v ≤ w := by
  obtain ⟨r, hr⟩ := h.rk
  have main : ∀ n v w, v < 0 → w < 0 → r v < n → θ v = .leaf w → v ≤ w := by
    intro n
    induction n with
    | zero => intro v w _ _ h; omega
    | succ n ih =>
      intro v w hv hw hn e
      cases hb : β v with
      | none =>
        rw [h.res.free v hb] at e
        cases e; omega
      | some t =>
        rw [h.res.sat v t hb] at e
        cases t with
        | un s a => cases e
        | bin s a b => cases e
        | leaf u =>
          by_cases hu : u < 0
          · have e1 : (Tm.leaf u).inst θ = θ u := if_pos hu
            rw [e1] at e
            have h1 := h.up v u hb hu
            have h2 := hr v _ hb u (by simp [Tm.flat]) hu
            have := ih u w hu hw (by omega) e
            omega
          · have e1 : (Tm.leaf u).inst θ = .leaf u := if_neg hu
            rw [e1] at e
            cases e; omega
  exact fun v w hv hw e => main (r v + 1) v w hv hw (by omega) e

/-- What a term is, as far as its first sign goes. -/
inductive Wk (β : Bn) : Tm → Tm → Prop
  | stay {x : Tm} : (x.sg < 0 → β x.sg = none) → Wk β x x
  | go {v : Int} {t y : Tm} : v < 0 → β v = some t → Wk β t y → Wk β (.leaf v) y

theorem exists_wk {β : Bn} {θ : Int → Tm} (h : St β θ) {x : Tm} (hx : x.ok) : ∃ y, Wk β x y := by
  obtain ⟨r, hr⟩ := h.rk
  have main : ∀ n (x : Tm), (∀ u ∈ x.flat, u < 0 → r u < n) → x.ok → ∃ y, Wk β x y := by
    intro n
    induction n with
    | zero =>
      intro x hn _
      refine ⟨x, .stay fun h0 => ?_⟩
      obtain ⟨r', e⟩ := sg_flat x
      have := hn x.sg (by rw [e]; exact List.mem_cons_self ..) h0
      omega
    | succ n ih =>
      intro x hn hx
      by_cases h0 : x.sg < 0
      · cases hb : β x.sg with
        | none => exact ⟨x, .stay fun _ => hb⟩
        | some t =>
          have e : x = .leaf x.sg := by
            cases x with
            | leaf s => rfl
            | un s a => have h1 : s < 0 := h0; have h2 := hx.1; rw [ar, if_pos (by omega)] at h2; cases h2
            | bin s a b => have h1 : s < 0 := h0; have h2 := hx.1; rw [ar, if_pos (by omega)] at h2; cases h2
          obtain ⟨y, hy⟩ := ih t (fun u hu hu0 => by
            have h1 := hr _ t hb u hu hu0
            have h2 := hn x.sg (by obtain ⟨r', e⟩ := sg_flat x; rw [e]; exact List.mem_cons_self ..) h0
            omega) (h.key _ t hb).2
          exact ⟨y, by rw [e]; exact .go h0 hb hy⟩
      · exact ⟨x, .stay fun h => absurd h h0⟩
  exact main ((x.flat.map r).sum + 1) x (fun u hu _ => by have := le_sum (f := r) x.flat u hu; omega) hx

theorem Wk.facts {β : Bn} {θ : Int → Tm} (h : St β θ) {x y : Tm} (k : Wk β x y) : x.ok → (∀ s ∈ x.flat, -8 ≤ s ∧ s < 6) → x.size ≤ 30 →
    y.ok ∧ (∀ s ∈ y.flat, -8 ≤ s ∧ s < 6) ∧ y.size ≤ 30 ∧ y.inst θ = x.inst θ ∧ (y.sg < 0 → y = .leaf y.sg ∧ β y.sg = none) ∧ (∀ τ, Sat τ β → y.inst τ = x.inst τ) := by
  induction k with
  | @stay x hn =>
    intro h1 h2 h3
    refine ⟨h1, h2, h3, rfl, fun h0 => ⟨?_, hn h0⟩, fun _ _ => rfl⟩
    cases x with
    | leaf s => rfl
    | un s a => have h4 : s < 0 := h0; have h5 := h1.1; rw [ar, if_pos (by omega)] at h5; cases h5
    | bin s a b => have h4 : s < 0 := h0; have h5 := h1.1; rw [ar, if_pos (by omega)] at h5; cases h5
  | @go v t y hv hb _ ih =>
    intro _ _ _
    obtain ⟨h1, h2, h3, h4, h5, h6⟩ := ih (h.key v t hb).2 (h.low v t hb).2.1 (h.low v t hb).2.2
    refine ⟨h1, h2, h3, ?_, h5, fun τ hτ => ?_⟩
    · rw [h4]
      have e : (Tm.leaf v).inst θ = θ v := if_pos hv
      rw [e, h.res.sat v t hb]
    · rw [h6 τ hτ]
      have e : (Tm.leaf v).inst τ = τ v := if_pos hv
      rw [e, hτ v t hb]

/-- What meet answers: bindings behind it; or nothing makes both the same. -/
def Met (β : Bn) (x y : Tm) (is : Bool) (β' : Bn) : Prop :=
  if is = true then (β' = β ∨ fr β' < fr β) ∧ (∃ θ', St β' θ') ∧ ∀ τ, Sat τ β' ↔ Sat τ β ∧ x.inst τ = y.inst τ
  else ∀ τ, Sat τ β → x.inst τ ≠ y.inst τ

theorem met_same {β : Bn} {θ : Int → Tm} (h : St β θ) (x : Tm) : Met β x x true β := by
  unfold Met; rw [if_pos rfl]
  exact ⟨.inl rfl, ⟨θ, h⟩, fun τ => ⟨fun h => ⟨h, rfl⟩, fun h => h.1⟩⟩
theorem met_walk {β β' : Bn} {x y x' y' : Tm} {is : Bool} (hx : ∀ τ, Sat τ β → x'.inst τ = x.inst τ) (hy : ∀ τ, Sat τ β → y'.inst τ = y.inst τ) (h : Met β x' y' is β') : Met β x y is β' := by
  unfold Met at h ⊢
  cases is with
  | true =>
    rw [if_pos rfl] at h ⊢
    refine ⟨h.1, h.2.1, fun τ => (h.2.2 τ).trans ⟨fun k => ⟨k.1, ?_⟩, fun k => ⟨k.1, ?_⟩⟩⟩
    · rw [← hx τ k.1, ← hy τ k.1]; exact k.2
    · rw [hx τ k.1, hy τ k.1]; exact k.2
  | false =>
    rw [if_neg (by decide)] at h ⊢
    intro τ hτ e
    exact h τ hτ (by rw [hx τ hτ, hy τ hτ]; exact e)
theorem met_symm {β β' : Bn} {x y : Tm} {is : Bool} (h : Met β x y is β') : Met β y x is β' := by
  unfold Met at h ⊢
  cases is with
  | true =>
    rw [if_pos rfl] at h ⊢
    exact ⟨h.1, h.2.1, fun τ => (h.2.2 τ).trans ⟨fun k => ⟨k.1, k.2.symm⟩, fun k => ⟨k.1, k.2.symm⟩⟩⟩
  | false =>
    rw [if_neg (by decide)] at h ⊢
    exact fun τ hτ e => h τ hτ e.symm
/-- A variable and a term in which it does not stand. -/
theorem met_bind {β : Bn} {θ : Int → Tm} (h : St β θ) {v : Int} {t : Tm} (h8 : -8 ≤ v) (hv : v < 0) (hf : β v = none) (ht : t.ok) (hs : ∀ s ∈ t.flat, -8 ≤ s ∧ s < 6) (hl : t.size ≤ 30) (hn : v ∉ (t.inst θ).flat)
    (hu : ∀ w, t = .leaf w → w < 0 → v < w) : Met β (.leaf v) t true (bnd β v t) := by
  unfold Met; rw [if_pos rfl]
  refine ⟨.inr (fr_bnd h8 hv hf), h.bind h8 hv hf ht hs hl hn hu, fun τ => ?_⟩
  have e : (Tm.leaf v).inst τ = τ v := if_pos hv
  rw [e]
  exact bnd_sat hf
/-- Two variables: the lesser one becomes the greater one. -/
theorem met_vars {β : Bn} {θ : Int → Tm} (h : St β θ) {v w : Int} (h1 : -8 ≤ v) (h2 : v < w) (h3 : w < 0) (hv : β v = none) (hw : β w = none) : Met β (.leaf v) (.leaf w) true (bnd β v (.leaf w)) := by
  refine met_bind h h1 (by omega) hv (by show ar w = 0; unfold ar; rw [if_pos (by omega)]) (fun s hs => by simp [Tm.flat] at hs; omega) (by simp [Tm.size]) ?_ fun u e _ => by cases e; omega
  have e : (Tm.leaf w).inst θ = θ w := if_pos h3
  rw [e, h.res.free w hw]
  simp [Tm.flat]; omega
theorem met_occurs {β : Bn} {θ : Int → Tm} (h : St β θ) {v : Int} {t : Tm} (hv : v < 0) (ht : t.ok) (h0 : 0 ≤ t.sg) (hn : v ∈ (t.inst θ).flat) (β' : Bn) : Met β (.leaf v) t false β' := by
  unfold Met; rw [if_neg (by decide)]
  intro τ hτ
  obtain ⟨r, hr⟩ := h.rk
  have e : (Tm.leaf v).inst τ = τ v := if_pos hv
  rw [e]
  exact occurs_no hr h.res h.ok hv ht h0 hn hτ
theorem met_clash {β β' : Bn} {x y : Tm} (hx : 0 ≤ x.sg) (hy : 0 ≤ y.sg) (h : x.sg ≠ y.sg) : Met β x y false β' := by
  unfold Met; rw [if_neg (by decide)]
  intro τ _ e
  have := congrArg Tm.sg e
  rw [(parts_inst τ hx).2, (parts_inst τ hy).2] at this
  exact h this
theorem met_leaf {β : Bn} {θ : Int → Tm} (h : St β θ) {s : Int} : Met β (.leaf s) (.leaf s) true β := met_same h _
theorem met_un {β β' : Bn} {s : Int} {a a' : Tm} {is : Bool} (h : Met β a a' is β') : Met β (.un s a) (.un s a') is β' := by
  have e : ∀ τ, (Tm.un s a).inst τ = (Tm.un s a').inst τ ↔ a.inst τ = a'.inst τ := fun τ => by
    show Tm.un s (a.inst τ) = .un s (a'.inst τ) ↔ _
    simp
  unfold Met at h ⊢
  cases is with
  | true => rw [if_pos rfl] at h ⊢; exact ⟨h.1, h.2.1, fun τ => by rw [e]; exact h.2.2 τ⟩
  | false => rw [if_neg (by decide)] at h ⊢; exact fun τ hτ k => h τ hτ ((e τ).1 k)
theorem met_bin_no {β β' β'' : Bn} {s : Int} {a a' b b' : Tm} (h : Met β a a' false β') : Met β (.bin s a b) (.bin s a' b') false β'' := by
  unfold Met at h ⊢
  rw [if_neg (by decide)] at h ⊢
  intro τ hτ k
  have k' : Tm.bin s (a.inst τ) (b.inst τ) = .bin s (a'.inst τ) (b'.inst τ) := k
  simp at k'
  exact h τ hτ k'.1
theorem met_bin {β β' β'' : Bn} {s : Int} {a a' b b' : Tm} {is : Bool} (h : Met β a a' true β') (k : Met β' b b' is β'') : Met β (.bin s a b) (.bin s a' b') is β'' := by
  have e : ∀ τ, (Tm.bin s a b).inst τ = (Tm.bin s a' b').inst τ ↔ a.inst τ = a'.inst τ ∧ b.inst τ = b'.inst τ := fun τ => by
    show Tm.bin s (a.inst τ) (b.inst τ) = .bin s (a'.inst τ) (b'.inst τ) ↔ _
    simp
  unfold Met at h k ⊢
  rw [if_pos rfl] at h
  cases is with
  | true =>
    rw [if_pos rfl] at k ⊢
    refine ⟨?_, k.2.1, fun τ => ?_⟩
    · rcases k.1 with rfl | k1
      · exact h.1
      · rcases h.1 with rfl | h1
        · exact .inr k1
        · exact .inr (by omega)
    · rw [k.2.2, h.2.2, e, and_assoc]
  | false =>
    rw [if_neg (by decide)] at k ⊢
    intro τ hτ q
    have q' := (e τ).1 q
    exact k τ ((h.2.2 τ).2 ⟨hτ, q'.1⟩) q'.2

theorem St.mgu {β : Bn} {θ : Int → Tm} (h : St β θ) {l : List (Tm × Tm)} (hl : ∀ τ, Sat τ β ↔ ∀ p ∈ l, p.1.inst τ = p.2.inst τ) : Mgu l θ := by
  obtain ⟨r, hr⟩ := h.rk
  exact ⟨h.ok, (hl θ).1 h.res.sat, fun θ' h' v hv => res_most hr h.res ((hl θ').2 h') v hv, h.great⟩

end Go.Proofs.Ytepddehodmljeaa

namespace Go.Proofs.Ytepddehodmljeaa

theorem St.signs {β : Bn} {θ : Int → Tm} (h : St β θ) : ∀ v, -8 ≤ v → v < 0 → ∀ s ∈ (θ v).flat, -8 ≤ s ∧ s < 6 := by
  obtain ⟨r, hr⟩ := h.rk
  have main : ∀ n v, -8 ≤ v → v < 0 → r v < n → ∀ s ∈ (θ v).flat, -8 ≤ s ∧ s < 6 := by
    intro n
    induction n with
    | zero => intro v _ _ h; omega
    | succ n ih =>
      intro v h8 hv hn s hs
      cases hb : β v with
      | none =>
        rw [h.res.free v hb] at hs
        simp [Tm.flat] at hs
        omega
      | some t =>
        rw [h.res.sat v t hb] at hs
        obtain ⟨-, h2, -⟩ := h.low v t hb
        by_cases h0 : s < 0
        · obtain ⟨u, hu0, hut, hsu⟩ := (mem_inst h0 (h.key v t hb).2).1 hs
          exact ih u (h2 u hut).1 hu0 (by have := hr v t hb u hut hu0; omega) s hsu
        · have : ∀ x : Tm, x.ok → s ∈ (x.inst θ).flat → s ∈ x.flat ∨ ∃ u, u < 0 ∧ u ∈ x.flat ∧ s ∈ (θ u).flat := by
            intro x
            induction x with
            | leaf q =>
              intro _ hq
              by_cases hq0 : q < 0
              · have e : (Tm.leaf q).inst θ = θ q := if_pos hq0
                rw [e] at hq
                exact .inr ⟨q, hq0, by simp [Tm.flat], hq⟩
              · have e : (Tm.leaf q).inst θ = .leaf q := if_neg hq0
                rw [e] at hq
                exact .inl hq
            | un q a iha =>
              intro hx hq
              have hq' : s ∈ q :: (a.inst θ).flat := hq
              rcases List.mem_cons.1 hq' with rfl | hq'
              · exact .inl (by simp [Tm.flat])
              · rcases iha hx.2 hq' with h1 | ⟨u, g1, g2, g3⟩
                · exact .inl (by simp [Tm.flat, h1])
                · exact .inr ⟨u, g1, by simp [Tm.flat, g2], g3⟩
            | bin q a b iha ihb =>
              intro hx hq
              have hq' : s ∈ q :: ((a.inst θ).flat ++ (b.inst θ).flat) := hq
              rcases List.mem_cons.1 hq' with rfl | hq'
              · exact .inl (by simp [Tm.flat])
              · rcases List.mem_append.1 hq' with hq' | hq'
                · rcases iha hx.2.1 hq' with h1 | ⟨u, g1, g2, g3⟩
                  · exact .inl (by simp [Tm.flat, h1])
                  · exact .inr ⟨u, g1, by simp [Tm.flat, g2], g3⟩
                · rcases ihb hx.2.2 hq' with h1 | ⟨u, g1, g2, g3⟩
                  · exact .inl (by simp [Tm.flat, h1])
                  · exact .inr ⟨u, g1, by simp [Tm.flat, g2], g3⟩
          rcases this t (h.key v t hb).2 hs with h3 | ⟨u, g1, g2, g3⟩
          · exact h2 s h3
          · exact ih u (h2 u g2).1 g1 (by have := hr v t hb u g2 g1; omega) s g3
  exact fun v h8 hv => main (r v + 1) v h8 hv (by omega)

def meetS (θ : Int → Tm) : List (List Int) := (List.range 8).map fun k : Nat => (θ (-1 - (k : Int))).flat
def smallS (θ : Int → Tm) : Prop := ∀ k : Nat, k < 8 → (θ (-1 - (k : Int))).size ≤ 30
def SgS (θ : Int → Tm) : Prop := ∀ v, -8 ≤ v → v < 0 → ∀ s ∈ (θ v).flat, -8 ≤ s ∧ s < 6

/-- What Solve answers, of right pairs. -/
def SolveR (l : List (Tm × Tm)) (s : List (List Int)) (is : Bool) (e : Int) : Prop :=
  (s = [] ∧ is = false ∧ e = 0 ∧ ∀ τ : Int → Tm, ¬ ∀ p ∈ l, p.1.inst τ = p.2.inst τ) ∨
  ∃ θ, Mgu l θ ∧ SgS θ ∧ ((smallS θ ∧ s = meetS θ ∧ is = true ∧ e = 0) ∨ (¬ smallS θ ∧ s = [] ∧ is = false ∧ e = 2))
def MeetR (a b : List Int) (s : List (List Int)) (is : Bool) (e : Int) : Prop :=
  if chk2 a b = 0 then SolveR [(tmOf a, tmOf b)] s is e else s = [] ∧ is = false ∧ e = chk2 a b

theorem meetS_nth {θ : Int → Tm} {v : Int} (h1 : -8 ≤ v) (h2 : v < 0) : nthT (meetS θ) (-1 - v).toNat = (θ v).flat := by
  have hk : (-1 - v).toNat < 8 := by omega
  have hl : (-1 - v).toNat < (meetS θ).length := by simp [meetS]; omega
  rw [nthT_eq hl]
  simp only [meetS, List.getElem_map, List.getElem_range]
  congr 2
  omega
theorem meetS_right {l : List (Tm × Tm)} {θ : Int → Tm} (h : Mgu l θ) (hg : SgS θ) (hs : smallS θ) : RightS (meetS θ) := by
  refine ⟨by simp [meetS], fun t ht => ?_⟩
  obtain ⟨k, hk, rfl⟩ := List.mem_map.1 ht
  have hk' := List.mem_range.1 hk
  exact chk_of (by rw [size_flat]; exact hs k hk') (hg _ (by omega) (by omega)) (need_tm (h.ok _ (by omega)))
theorem meetS_app {θ : Int → Tm} {x : Tm} (hx : x.ok) (hs : ∀ s ∈ x.flat, -8 ≤ s) : app (meetS θ) x.flat = (x.inst θ).flat :=
  app_flat x hx fun v hv h0 => meetS_nth (hs v hv) h0

theorem chk2_symm {a b : List Int} (h : chk2 a b = 0) : chk2 b a = 0 := by
  obtain ⟨h1, h2⟩ := chk2_zero h
  rw [chk2, if_pos h2, h1]

/-- The other way round the same comes. -/
theorem meet_swap {a b : List Int} {s u : List (List Int)} {is io : Bool} {e f : Int} (h : MeetR a b s is e) (he : e = 0) (k : MeetR b a u io f) : f = 0 ∧ io = is ∧ s = u := by
  subst he
  by_cases hc : chk2 a b = 0
  · rw [MeetR, if_pos hc] at h
    rw [MeetR, if_pos (chk2_symm hc)] at k
    have hsw : ∀ τ : Int → Tm, (∀ p ∈ [(tmOf a, tmOf b)], p.1.inst τ = p.2.inst τ) ↔ ∀ p ∈ [(tmOf b, tmOf a)], p.1.inst τ = p.2.inst τ := by
      intro τ; simp; exact ⟨Eq.symm, Eq.symm⟩
    rcases h with ⟨rfl, rfl, -, hn⟩ | ⟨θ, hθ, hg, h⟩
    · rcases k with ⟨rfl, rfl, rfl, -⟩ | ⟨τ, hτ, -, -⟩
      · exact ⟨rfl, rfl, rfl⟩
      · exact absurd ((hsw τ).2 hτ.same) (hn τ)
    · rcases k with ⟨-, -, -, hn⟩ | ⟨τ, hτ, hg', k⟩
      · exact absurd ((hsw θ).1 hθ.same) (hn θ)
      · have hu := hθ.unique hτ hsw
        have hsz : smallS θ ↔ smallS τ := by
          unfold smallS
          exact ⟨fun h k hk => by rw [← hu _ (by omega)]; exact h k hk, fun h k hk => by rw [hu _ (by omega)]; exact h k hk⟩
        have hms : meetS θ = meetS τ := by
          unfold meetS
          refine List.map_congr_left fun k _ => ?_
          rw [hu _ (by omega)]
        rcases h with ⟨g1, rfl, rfl, -⟩ | ⟨-, -, -, g⟩
        · rcases k with ⟨-, rfl, rfl, rfl⟩ | ⟨g2, -⟩
          · exact ⟨rfl, rfl, hms⟩
          · exact absurd (hsz.1 g1) g2
        · cases g
  · rw [MeetR, if_neg hc] at h
    exact absurd h.2.2.symm hc

theorem meet_yes {a b : List Int} {s : List (List Int)} {e : Int} (h : MeetR a b s true e) : chk2 a b = 0 ∧ e = 0 ∧ ∃ θ, Mgu [(tmOf a, tmOf b)] θ ∧ SgS θ ∧ smallS θ ∧ s = meetS θ := by
  by_cases hc : chk2 a b = 0
  · rw [MeetR, if_pos hc] at h
    rcases h with ⟨-, h, -⟩ | ⟨θ, hθ, hg, ⟨h1, h2, -, h3⟩ | ⟨-, -, h, -⟩⟩
    · cases h
    · exact ⟨hc, h3, θ, hθ, hg, h1, h2⟩
    · cases h
  · rw [MeetR, if_neg hc] at h
    exact absurd h.2.1 (by decide)

/-- What comes makes both the same; done twice it is done once. -/
theorem meet_true {a b : List Int} {s : List (List Int)} {e : Int} (h : MeetR a b s true e) : applyE s a = applyE s b ∧ applyT s a = applyT s b ∧ afterE s s = 0 ∧ afterT s s = s := by
  obtain ⟨hc, -, θ, hθ, hg, hsm, rfl⟩ := meet_yes h
  obtain ⟨ha, hb⟩ := chk2_zero hc
  have hr := meetS_right hθ hg hsm
  obtain ⟨hxa, hfa⟩ := tm_chk ha
  obtain ⟨hxb, hfb⟩ := tm_chk hb
  have e1 : app (meetS θ) a = app (meetS θ) b := by
    have h1 := meetS_app (θ := θ) hxa (by rw [hfa]; exact fun s hs => (signs_of_chk ha s hs).1)
    have h2 := meetS_app (θ := θ) hxb (by rw [hfb]; exact fun s hs => (signs_of_chk hb s hs).1)
    rw [hfa] at h1
    rw [hfb] at h2
    rw [h1, h2, hθ.same (tmOf a, tmOf b) (by simp)]
  have e2 : aft (meetS θ) (meetS θ) = meetS θ := by
    unfold aft
    rw [meetS, List.map_map]
    refine List.map_congr_left fun k hk => ?_
    have hk' := List.mem_range.1 hk
    have hv : (-1 - (k : Int)) < 0 := by omega
    show app (meetS θ) (θ (-1 - (k : Int))).flat = (θ (-1 - (k : Int))).flat
    rw [meetS_app (hθ.ok _ hv) (fun s hs => (hg _ (by omega) hv s hs).1), hθ.twice _ hv]
  have e3 : bigL (meetS θ) = false := by
    unfold bigL
    rw [List.any_eq_false]
    intro t ht
    have := len_of_chk (hr.2 t ht)
    simp; omega
  have hE : applyE (meetS θ) a = applyE (meetS θ) b := by
    have h0 : ¬ chkS (meetS θ) ≠ 0 := by rw [chkS_zero.2 hr]; decide
    have hc : ∀ c, chk c = 0 → applyE (meetS θ) c = if 30 < (app (meetS θ) c).length then 2 else 0 := fun c hc => by rw [applyE, if_neg h0, if_neg (by rw [hc]; decide)]
    rw [hc a ha, hc b hb, e1]
  refine ⟨hE, ?_, ?_, ?_⟩
  · rw [applyT, applyT, hE, e1]
  · rw [afterE, if_neg (by rw [chkS_zero.2 hr]; decide), if_neg (by rw [chkS_zero.2 hr]; decide), e2, e3]; rfl
  · have : afterE (meetS θ) (meetS θ) = 0 := by
      rw [afterE, if_neg (by rw [chkS_zero.2 hr]; decide), if_neg (by rw [chkS_zero.2 hr]; decide), e2, e3]; rfl
    rw [afterT, if_pos this, e2]

/-- Whatever else makes both the same is made of what comes. -/
theorem meet_most {a b : List Int} {u s : List (List Int)} {is : Bool} {e : Int} (ha : applyE u a = 0) (hb : applyE u b = 0) (hab : applyT u a = applyT u b) (h : MeetR a b s is e) :
    (e ≠ 0 → e = 2) ∧ (e = 0 → is = true ∧ afterE s u = 0 ∧ afterT s u = u) := by
  obtain ⟨hu, hca, hla⟩ := applyE_zero ha
  obtain ⟨-, hcb, hlb⟩ := applyE_zero hb
  have hR := chkS_zero.1 hu
  rw [(apply_ok hu hca hla).2, (apply_ok hu hcb hlb).2] at hab
  have hc : chk2 a b = 0 := by rw [chk2, if_pos hca, hcb]
  rw [MeetR, if_pos hc] at h
  have hsame : ∀ p ∈ [(tmOf a, tmOf b)], p.1.inst (sig u) = p.2.inst (sig u) := by
    intro p hp
    simp at hp
    subst hp
    obtain ⟨e1, k1⟩ := app_tm hR hca
    obtain ⟨e2, k2⟩ := app_tm hR hcb
    exact flat_eq k1 k2 (by rw [← e1, ← e2, hab])
  rcases h with ⟨-, -, -, hn⟩ | ⟨θ, hθ, hg, ⟨hsm, rfl, rfl, rfl⟩ | ⟨-, -, -, rfl⟩⟩
  · exact absurd hsame (hn (sig u))
  · refine ⟨fun h => absurd rfl h, fun _ => ⟨rfl, ?_⟩⟩
    have hr := meetS_right hθ hg hsm
    have e2 : aft (meetS θ) u = u := by
      apply extT
      · simp [aft, meetS, hR.1]
      · intro j hj
        have hj8 : j < 8 := by simpa [aft, meetS] using hj
        have hv : (-1 - (j : Int)) < 0 := by omega
        have hjl : j < (aft (meetS θ) u).length := hj
        rw [nthT_eq hjl]
        simp only [aft, meetS, List.getElem_map, List.getElem_range]
        have h1 := hθ.ok _ hv
        rw [app_sig hR h1 (fun s hs => (hg _ (by omega) hv s hs).1), hθ.most (sig u) hsame _ hv, sig_flat hR (by omega) hv]
        congr 1
        omega
    have e3 : bigL u = false := by
      unfold bigL
      rw [List.any_eq_false]
      intro t ht
      have := len_of_chk (hR.2 t ht)
      simp; omega
    have hE : afterE (meetS θ) u = 0 := by
      rw [afterE, if_neg (by rw [chkS_zero.2 hr]; decide), if_neg (by rw [hu]; decide), e2, e3]; rfl
    exact ⟨hE, by rw [afterT, if_pos hE, e2]⟩
  · exact ⟨fun _ => rfl, fun h => by cases h⟩

end Go.Proofs.Ytepddehodmljeaa

namespace Go.Proofs.Ytepddehodmljeaa

/-- One variable more becomes something. -/
def bdS (θ : Int → Tm) (v : Int) (t : Tm) : Int → Tm := fun u => (θ u).inst fun w => if w = v then t else .leaf w

theorem inst_bdS (θ : Int → Tm) (v : Int) (t x : Tm) : x.inst (bdS θ v t) = (x.inst θ).inst fun w => if w = v then t else .leaf w := (inst_inst x).symm

theorem mgu_bind {l : List (Tm × Tm)} {θ : Int → Tm} (h : Mgu l θ) {a b : Tm} {v : Int} {t : Tm} (hv : v < 0) (ht : t.ok) (hn : v ∉ t.flat) (hu : ∀ w, t = .leaf w → w < 0 → v < w)
    (hab : (a.inst θ = .leaf v ∧ b.inst θ = t) ∨ (b.inst θ = .leaf v ∧ a.inst θ = t)) : Mgu ((a, b) :: l) (bdS θ v t) := by
  have hσo : OkS fun w => if w = v then t else .leaf w := fun w hw => by
    show (if w = v then t else Tm.leaf w).ok
    split
    · exact ht
    · show ar w = 0; unfold ar; rw [if_pos (by omega)]
  have hts : t.inst (fun w => if w = v then t else .leaf w) = t := by
    have : t.inst (fun w => if w = v then t else .leaf w) = t.inst .leaf := inst_congr fun w hw _ => if_neg fun e => hn (by rw [← e]; exact hw)
    rw [this, inst_self _ ht]
  have hvs : (Tm.leaf v).inst (fun w => if w = v then t else .leaf w) = t := by
    have e : (Tm.leaf v).inst (fun w => if w = v then t else .leaf w) = if v = v then t else .leaf v := if_pos hv
    rw [e, if_pos rfl]
  refine ⟨fun w hw => inst_ok hσo (h.ok w hw), ?_, ?_, ?_⟩
  · intro p hp
    rw [inst_bdS, inst_bdS]
    rcases List.mem_cons.1 hp with rfl | hp
    · rcases hab with ⟨e1, e2⟩ | ⟨e1, e2⟩
      · show ((a.inst θ).inst _) = ((b.inst θ).inst _)
        rw [e1, e2, hts, hvs]
      · show ((a.inst θ).inst _) = ((b.inst θ).inst _)
        rw [e1, e2, hts, hvs]
    · rw [h.same p hp]
  · intro τ hτ
    have hm := h.most τ fun p hp => hτ p (List.mem_cons_of_mem _ hp)
    have hx : ∀ x : Tm, (x.inst θ).inst τ = x.inst τ := fun x => by
      rw [inst_inst]; exact inst_congr fun w _ hw => hm w hw
    have hab' : a.inst τ = b.inst τ := hτ (a, b) (List.mem_cons_self ..)
    have hvt : t.inst τ = τ v := by
      have e : (Tm.leaf v).inst τ = τ v := if_pos hv
      rcases hab with ⟨e1, e2⟩ | ⟨e1, e2⟩
      · rw [← e2, hx, ← hab', ← hx, e1, e]
      · rw [← e2, hx, hab', ← hx, e1, e]
    intro u hu
    show ((θ u).inst _).inst τ = τ u
    rw [inst_inst, ← hm u hu]
    refine inst_congr fun w _ hw => ?_
    show (if w = v then t else Tm.leaf w).inst τ = τ w
    split
    · rw [hvt]; congr 1; exact Eq.symm (by assumption)
    · exact if_pos hw
  · intro u w hu hw e
    have e' : (θ u).inst (fun w => if w = v then t else .leaf w) = .leaf w := e
    cases hz : θ u with
    | un s x => rw [hz] at e'; cases e'
    | bin s x y => rw [hz] at e'; cases e'
    | leaf z =>
      rw [hz] at e'
      by_cases h0 : z < 0
      · have g := h.great u z hu h0 hz
        have e1 : (Tm.leaf z).inst (fun w => if w = v then t else .leaf w) = if z = v then t else .leaf z := if_pos h0
        rw [e1] at e'
        split at e'
        · have := hu
          have := ‹z = v›
          have := ‹∀ w, t = .leaf w → w < 0 → v < w› w e' hw
          omega
        · cases e'; omega
      · have e1 : (Tm.leaf z).inst (fun w => if w = v then t else .leaf w) = .leaf z := if_neg h0
        rw [e1] at e'
        cases e'; omega

/-- Two terms made the same, behind what is so already; none: no fuel; some none: nothing does. -/
def uF : Nat → (Int → Tm) → Tm → Tm → Option (Option (Int → Tm))
  | 0, _, _, _ => none
  | n + 1, θ, a, b =>
    if a.inst θ = b.inst θ then some (some θ)
    else match a.inst θ, b.inst θ with
      | .un s x, .un s' y => if s = s' then uF n θ x y else some none
      | .bin s x y, .bin s' x' y' =>
        if s = s' then (match uF n θ x x' with
          | some (some θ') => uF n θ' y y'
          | r => r) else some none
      | .leaf v, y =>
        if v < 0 then (match y with
          | .leaf w => if w < 0 then (if v < w then some (some (bdS θ v (.leaf w))) else some (some (bdS θ w (.leaf v)))) else some (some (bdS θ v (.leaf w)))
          | y => if y.flat.contains v then some none else some (some (bdS θ v y)))
        else (match y with
          | .leaf w => if w < 0 then some (some (bdS θ w (.leaf v))) else some none
          | _ => some none)
      | x, .leaf w => if w < 0 then (if x.flat.contains w then some none else some (some (bdS θ w x))) else some none
      | _, _ => some none

/-- What has come of it. -/
def UfR (l : List (Tm × Tm)) (a b : Tm) : Option (Option (Int → Tm)) → Prop
  | none => True
  | some none => ∀ τ : Int → Tm, ¬ ∀ p ∈ (a, b) :: l, p.1.inst τ = p.2.inst τ
  | some (some θ) => Mgu ((a, b) :: l) θ

theorem mgu_iff {l m : List (Tm × Tm)} {θ : Int → Tm} (h : Mgu l θ) (hlm : ∀ τ : Int → Tm, (∀ p ∈ l, p.1.inst τ = p.2.inst τ) ↔ (∀ p ∈ m, p.1.inst τ = p.2.inst τ)) : Mgu m θ :=
  ⟨h.ok, (hlm θ).1 h.same, fun τ hτ => h.most τ ((hlm τ).2 hτ), h.great⟩

theorem size_inst_le {τ : Int → Tm} {v : Int} (hv : v < 0) {x : Tm} (hx : x.ok) (hm : v ∈ x.flat) (h0 : 0 ≤ x.sg) (e : (Tm.leaf v).inst τ = x.inst τ) : False := by
  have h1 := (inst_size_var (θ := τ) hv hx hm).2 h0
  have e1 : (Tm.leaf v).inst τ = τ v := if_pos hv
  rw [← e, e1] at h1
  omega

theorem UfR.iff {l m : List (Tm × Tm)} {a b x y : Tm} {r : Option (Option (Int → Tm))} (h : UfR l a b r)
    (hlm : ∀ τ : Int → Tm, (∀ p ∈ (a, b) :: l, p.1.inst τ = p.2.inst τ) ↔ (∀ p ∈ (x, y) :: m, p.1.inst τ = p.2.inst τ)) : UfR m x y r := by
  match r, h with
  | none, _ => trivial
  | some none, h => exact fun τ k => h τ ((hlm τ).2 k)
  | some (some θ), h => exact mgu_iff h hlm

theorem uF_right : ∀ (n : Nat) {l : List (Tm × Tm)} {θ : Int → Tm} (a b : Tm), Mgu l θ → a.ok → b.ok → UfR l a b (uF n θ a b)
  | 0, _, _, _, _, _, _, _ => trivial
  | n + 1, l, θ, a, b, h, ha, hb => by
    have hoa := inst_ok h.ok ha
    have hob := inst_ok h.ok hb
    have hx : ∀ (τ : Int → Tm), (∀ p ∈ l, p.1.inst τ = p.2.inst τ) → ∀ x : Tm, (x.inst θ).inst τ = x.inst τ := fun τ hτ x => by
      rw [inst_inst]; exact inst_congr fun w _ hw => h.most τ hτ w hw
    have key : ∀ (τ : Int → Tm), (∀ p ∈ (a, b) :: l, p.1.inst τ = p.2.inst τ) ↔ ((a.inst θ).inst τ = (b.inst θ).inst τ ∧ ∀ p ∈ l, p.1.inst τ = p.2.inst τ) := by
      intro τ
      constructor
      · intro hp
        have h2 : ∀ p ∈ l, p.1.inst τ = p.2.inst τ := fun p hq => hp p (List.mem_cons_of_mem _ hq)
        exact ⟨by rw [hx τ h2, hx τ h2]; exact hp (a, b) (List.mem_cons_self ..), h2⟩
      · rintro ⟨h1, h2⟩ p hp
        rcases List.mem_cons.1 hp with rfl | hp
        · rw [hx τ h2, hx τ h2] at h1; exact h1
        · exact h2 p hp
    have keyc : ∀ (τ : Int → Tm) (x y : Tm), (∀ p ∈ (x, y) :: l, p.1.inst τ = p.2.inst τ) ↔ (x.inst τ = y.inst τ ∧ ∀ p ∈ l, p.1.inst τ = p.2.inst τ) := by
      intro τ x y
      exact ⟨fun hp => ⟨hp (x, y) (List.mem_cons_self ..), fun p hq => hp p (List.mem_cons_of_mem _ hq)⟩, fun ⟨h1, h2⟩ p hp => by
        rcases List.mem_cons.1 hp with rfl | hp
        · exact h1
        · exact h2 p hp⟩
    unfold uF
    by_cases he : a.inst θ = b.inst θ
    · rw [if_pos he]
      exact mgu_iff h fun τ => ⟨fun k => (key τ).2 ⟨by rw [he], k⟩, fun k => ((key τ).1 k).2⟩
    · rw [if_neg he]
      have hleaf : ∀ v : Int, ∀ y : Tm, v < 0 → (v ∈ y.flat ∧ 0 ≤ y.sg) → y.ok → ∀ τ : Int → Tm, (Tm.leaf v).inst τ ≠ y.inst τ := fun v y hv hm hy τ e => size_inst_le hv hy hm.1 hm.2 e
      cases hA : a.inst θ with
      | leaf v =>
        rw [hA] at he hoa
        cases hB : b.inst θ with
        | leaf w =>
          rw [hB] at he hob
          have hvw : v ≠ w := fun e => he (by rw [e])
          dsimp only
          by_cases hv : v < 0
          · rw [if_pos hv]
            by_cases hw : w < 0
            · rw [if_pos hw]
              by_cases hl : v < w
              · rw [if_pos hl]
                exact mgu_bind h hv hob (by simp [Tm.flat]; omega) (fun u e _ => by cases e; exact hl) (.inl ⟨hA, hB⟩)
              · rw [if_neg hl]
                exact mgu_bind h hw hoa (by simp [Tm.flat]; omega) (fun u e _ => by cases e; omega) (.inr ⟨hB, hA⟩)
            · rw [if_neg hw]
              exact mgu_bind h hv hob (by simp [Tm.flat]; omega) (fun u e _ => by cases e; omega) (.inl ⟨hA, hB⟩)
          · rw [if_neg hv]
            by_cases hw : w < 0
            · rw [if_pos hw]
              exact mgu_bind h hw hoa (by simp [Tm.flat]; omega) (fun u e _ => by cases e; omega) (.inr ⟨hB, hA⟩)
            · rw [if_neg hw]
              intro τ k
              have := ((key τ).1 k).1
              rw [hA, hB] at this
              have e1 : (Tm.leaf v).inst τ = .leaf v := if_neg hv
              have e2 : (Tm.leaf w).inst τ = .leaf w := if_neg hw
              rw [e1, e2] at this
              exact he this
        | un s y =>
          rw [hB] at hob
          dsimp only
          have hs : 0 ≤ s := by have := ar_pos (s := s) (by rw [hob.1]; decide); omega
          by_cases hv : v < 0
          · rw [if_pos hv]
            by_cases hm : (Tm.un s y).flat.contains v = true
            · rw [if_pos hm]
              intro τ k
              have := ((key τ).1 k).1
              rw [hA, hB] at this
              refine hleaf v _ hv ⟨?_, ?_⟩ hob τ this
              · simpa using hm
              · exact hs
            · rw [if_neg hm]
              exact mgu_bind h hv hob (by simpa using hm) (fun u e _ => by cases e) (.inl ⟨hA, hB⟩)
          · rw [if_neg hv]
            intro τ k
            have := ((key τ).1 k).1
            rw [hA, hB] at this
            have e1 : (Tm.leaf v).inst τ = .leaf v := if_neg hv
            rw [e1] at this
            cases this
        | bin s y z =>
          rw [hB] at hob
          dsimp only
          have hs : 0 ≤ s := by have := ar_pos (s := s) (by rw [hob.1]; decide); omega
          by_cases hv : v < 0
          · rw [if_pos hv]
            by_cases hm : (Tm.bin s y z).flat.contains v = true
            · rw [if_pos hm]
              intro τ k
              have := ((key τ).1 k).1
              rw [hA, hB] at this
              refine hleaf v _ hv ⟨?_, ?_⟩ hob τ this
              · simpa using hm
              · exact hs
            · rw [if_neg hm]
              exact mgu_bind h hv hob (by simpa using hm) (fun u e _ => by cases e) (.inl ⟨hA, hB⟩)
          · rw [if_neg hv]
            intro τ k
            have := ((key τ).1 k).1
            rw [hA, hB] at this
            have e1 : (Tm.leaf v).inst τ = .leaf v := if_neg hv
            rw [e1] at this
            cases this
      | un s x =>
        rw [hA] at hoa
        have hs : 0 ≤ s := by have := ar_pos (s := s) (by rw [hoa.1]; decide); omega
        cases hB : b.inst θ with
        | leaf w =>
          dsimp only
          by_cases hw : w < 0
          · rw [if_pos hw]
            by_cases hm : (Tm.un s x).flat.contains w = true
            · rw [if_pos hm]
              intro τ k
              have := ((key τ).1 k).1
              rw [hA, hB] at this
              refine hleaf w _ hw ⟨?_, ?_⟩ hoa τ this.symm
              · simpa using hm
              · exact hs
            · rw [if_neg hm]
              exact mgu_bind h hw hoa (by simpa using hm) (fun u e _ => by cases e) (.inr ⟨hB, hA⟩)
          · rw [if_neg hw]
            intro τ k
            have := ((key τ).1 k).1
            rw [hA, hB] at this
            have e1 : (Tm.leaf w).inst τ = .leaf w := if_neg hw
            rw [e1] at this
            cases this
        | un s' y =>
          rw [hB] at hob
          dsimp only
          by_cases hss : s = s'
          · rw [if_pos hss]
            subst hss
            refine UfR.iff (uF_right n x y h hoa.2 hob.2) fun τ => ?_
            rw [keyc, key, hA, hB]
            refine and_congr_left fun _ => ?_
            show _ ↔ Tm.un s (x.inst τ) = .un s (y.inst τ)
            simp
          · rw [if_neg hss]
            intro τ k
            have := ((key τ).1 k).1
            rw [hA, hB] at this
            have : Tm.un s (x.inst τ) = .un s' (y.inst τ) := this
            injection this with e1
            exact hss e1
        | bin s' y z =>
          dsimp only
          intro τ k
          have := ((key τ).1 k).1
          rw [hA, hB] at this
          cases this
      | bin s x y =>
        rw [hA] at hoa
        have hs : 0 ≤ s := by have := ar_pos (s := s) (by rw [hoa.1]; decide); omega
        cases hB : b.inst θ with
        | leaf w =>
          dsimp only
          by_cases hw : w < 0
          · rw [if_pos hw]
            by_cases hm : (Tm.bin s x y).flat.contains w = true
            · rw [if_pos hm]
              intro τ k
              have := ((key τ).1 k).1
              rw [hA, hB] at this
              refine hleaf w _ hw ⟨?_, ?_⟩ hoa τ this.symm
              · simpa using hm
              · exact hs
            · rw [if_neg hm]
              exact mgu_bind h hw hoa (by simpa using hm) (fun u e _ => by cases e) (.inr ⟨hB, hA⟩)
          · rw [if_neg hw]
            intro τ k
            have := ((key τ).1 k).1
            rw [hA, hB] at this
            have e1 : (Tm.leaf w).inst τ = .leaf w := if_neg hw
            rw [e1] at this
            cases this
        | un s' z =>
          dsimp only
          intro τ k
          have := ((key τ).1 k).1
          rw [hA, hB] at this
          cases this
        | bin s' x' y' =>
          rw [hB] at hob
          dsimp only
          by_cases hss : s = s'
          · rw [if_pos hss]
            subst hss
            have h1 := uF_right n x x' h hoa.2.1 hob.2.1
            have hk : ∀ τ : Int → Tm, (∀ p ∈ (a, b) :: l, p.1.inst τ = p.2.inst τ) ↔ ((x.inst τ = x'.inst τ ∧ y.inst τ = y'.inst τ) ∧ ∀ p ∈ l, p.1.inst τ = p.2.inst τ) := by
              intro τ
              rw [key, hA, hB]
              refine and_congr_left fun _ => ?_
              show Tm.bin s (x.inst τ) (y.inst τ) = .bin s (x'.inst τ) (y'.inst τ) ↔ _
              simp
            cases hr : uF n θ x x' with
            | none => trivial
            | some r =>
              rw [hr] at h1
              cases r with
              | none =>
                intro τ k
                exact h1 τ ((keyc τ x x').2 ⟨((hk τ).1 k).1.1, ((hk τ).1 k).2⟩)
              | some θ' =>
                refine UfR.iff (uF_right n y y' h1 hoa.2.2 hob.2.2) fun τ => ?_
                rw [hk]
                constructor
                · intro k
                  have k2 := (keyc τ x x').1 fun p hp => k p (List.mem_cons_of_mem _ hp)
                  exact ⟨⟨k2.1, k (y, y') (List.mem_cons_self ..)⟩, k2.2⟩
                · rintro ⟨⟨k1, k2⟩, k3⟩ p hp
                  rcases List.mem_cons.1 hp with rfl | hp
                  · exact k2
                  · exact (keyc τ x x').2 ⟨k1, k3⟩ p hp
          · rw [if_neg hss]
            intro τ k
            have := ((key τ).1 k).1
            rw [hA, hB] at this
            have : Tm.bin s (x.inst τ) (y.inst τ) = .bin s' (x'.inst τ) (y'.inst τ) := this
            injection this with e1
            exact hss e1

/-- Pairs, one behind the other. -/
def solF (n : Nat) : List (Tm × Tm) → (Int → Tm) → Option (Option (Int → Tm))
  | [], θ => some (some θ)
  | (a, b) :: l, θ => match uF n θ a b with
    | some (some θ') => solF n l θ'
    | r => r
def SoR (l : List (Tm × Tm)) : Option (Option (Int → Tm)) → Prop
  | none => True
  | some none => ∀ τ : Int → Tm, ¬ ∀ p ∈ l, p.1.inst τ = p.2.inst τ
  | some (some θ) => Mgu l θ
theorem solF_right (n : Nat) : ∀ (l m : List (Tm × Tm)) (θ : Int → Tm), (∀ p ∈ l, p.1.ok ∧ p.2.ok) → Mgu m θ → SoR (l ++ m) (solF n l θ)
  | [], _, _, _, h => h
  | (a, b) :: l, m, θ, hl, h => by
    have h1 := uF_right n a b h (hl (a, b) (List.mem_cons_self ..)).1 (hl (a, b) (List.mem_cons_self ..)).2
    show SoR _ (match uF n θ a b with
      | some (some θ') => solF n l θ'
      | r => r)
    cases hr : uF n θ a b with
    | none => trivial
    | some r =>
      rw [hr] at h1
      cases r with
      | none =>
        intro τ k
        exact h1 τ fun p hp => k p (by
          rcases List.mem_cons.1 hp with rfl | hp
          · simp
          · simp [hp])
      | some θ' =>
        have h2 := solF_right n l ((a, b) :: m) θ' (fun p hp => hl p (List.mem_cons_of_mem _ hp)) h1
        have hiff : ∀ τ : Int → Tm, (∀ p ∈ l ++ (a, b) :: m, p.1.inst τ = p.2.inst τ) ↔ (∀ p ∈ (a, b) :: l ++ m, p.1.inst τ = p.2.inst τ) := by
          intro τ
          constructor
          · intro k p hp
            exact k p (by simp at hp ⊢; rcases hp with hp | hp | hp <;> simp [hp])
          · intro k p hp
            exact k p (by simp at hp ⊢; rcases hp with hp | hp | hp <;> simp [hp])
        dsimp only
        match hs : solF n l θ', h2 with
        | none, _ => trivial
        | some none, h2 => exact fun τ k => h2 τ ((hiff τ).2 k)
        | some (some θ2), h2 => exact mgu_iff h2 hiff

theorem mgu_nil : Mgu [] .leaf :=
  ⟨fun v hv => by show ar v = 0; unfold ar; rw [if_pos (by omega)], fun p hp => by simp at hp, fun τ _ v hv => if_pos hv, fun v w _ _ e => by cases e; omega⟩

def smB (θ : Int → Tm) : Bool := (List.range 8).all fun k : Nat => decide ((θ (-1 - (k : Int))).size ≤ 30)
theorem smB_iff {θ : Int → Tm} : smB θ = true ↔ smallS θ := by
  unfold smB smallS
  rw [List.all_eq_true]
  exact ⟨fun h k hk => by simpa using h k (List.mem_range.2 hk), fun h k hk => by simpa using h k (List.mem_range.1 hk)⟩

abbrev Sln := List (List Int) × Bool × Int
abbrev Fb := List (Tm × Tm) → Sln
/-- What Solve answers; fb: where the fuel does not last. -/
def solX (fb : Fb) (l : List (Tm × Tm)) : Sln :=
  match solF 200 l .leaf with
  | some (some θ) => if smB θ = true then (meetS θ, true, 0) else ([], false, 2)
  | some none => ([], false, 0)
  | none => fb l

theorem meetS_congr {θ τ : Int → Tm} (h : ∀ v, v < 0 → θ v = τ v) : meetS θ = meetS τ := by
  unfold meetS
  refine List.map_congr_left fun k _ => ?_
  rw [h _ (by omega)]
theorem smallS_congr {θ τ : Int → Tm} (h : ∀ v, v < 0 → θ v = τ v) : smallS θ ↔ smallS τ := by
  unfold smallS
  exact ⟨fun g k hk => by rw [← h _ (by omega)]; exact g k hk, fun g k hk => by rw [h _ (by omega)]; exact g k hk⟩
theorem solveR_unique {l : List (Tm × Tm)} {r q : Sln} (h : SolveR l r.1 r.2.1 r.2.2) (k : SolveR l q.1 q.2.1 q.2.2) : r = q := by
  obtain ⟨r1, r2, r3⟩ := r
  obtain ⟨q1, q2, q3⟩ := q
  rcases h with ⟨rfl, rfl, rfl, hn⟩ | ⟨θ, hθ, -, h⟩
  · rcases k with ⟨rfl, rfl, rfl, -⟩ | ⟨τ, hτ, -, -⟩
    · rfl
    · exact absurd hτ.same (hn τ)
  · rcases k with ⟨-, -, -, hn⟩ | ⟨τ, hτ, -, k⟩
    · exact absurd hθ.same (hn θ)
    · have hu := hθ.unique hτ fun _ => Iff.rfl
      rcases h with ⟨g1, rfl, rfl, rfl⟩ | ⟨g1, rfl, rfl, rfl⟩
      · rcases k with ⟨-, rfl, rfl, rfl⟩ | ⟨g2, -⟩
        · show (meetS θ, _) = (meetS τ, _)
          rw [meetS_congr hu]
        · exact absurd ((smallS_congr hu).1 g1) g2
      · rcases k with ⟨g2, -⟩ | ⟨-, rfl, rfl, rfl⟩
        · exact absurd ((smallS_congr hu).2 g2) g1
        · rfl
/-- There is an answer: what meet does, in plain Lean. -/
theorem exists_met : ∀ (n m : Nat) (β : Bn) (θ : Int → Tm) (x y : Tm), St β θ → x.ok → y.ok → (∀ s ∈ x.flat, -8 ≤ s ∧ s < 6) → (∀ s ∈ y.flat, -8 ≤ s ∧ s < 6) → x.size ≤ 30 → y.size ≤ 30 →
    fr β < n → (x.inst θ).size < m → ∃ is β', Met β x y is β'
  | 0, _, _, _, _, _, _, _, _, _, _, _, _, h, _ => by omega
  | _, 0, _, _, _, _, _, _, _, _, _, _, _, _, h => by omega
  | n + 1, m + 1, β, θ, x, y, h, hx, hy, gx, gy, lx, ly, hn, hm => by
    obtain ⟨x', kx⟩ := exists_wk h hx
    obtain ⟨y', ky⟩ := exists_wk h hy
    obtain ⟨x1, x2, x3, x4, x5, x6⟩ := kx.facts h hx gx lx
    obtain ⟨y1, y2, y3, y4, y5, y6⟩ := ky.facts h hy gy ly
    suffices ∃ is β', Met β x' y' is β' by
      obtain ⟨is, β', k⟩ := this
      exact ⟨is, β', met_walk x6 y6 k⟩
    have hsx : -8 ≤ x'.sg := by obtain ⟨r, e⟩ := sg_flat x'; exact (x2 _ (by rw [e]; exact List.mem_cons_self ..)).1
    have hsy : -8 ≤ y'.sg := by obtain ⟨r, e⟩ := sg_flat y'; exact (y2 _ (by rw [e]; exact List.mem_cons_self ..)).1
    by_cases hv : x'.sg < 0
    · obtain ⟨e1, f1⟩ := x5 hv
      by_cases hw : y'.sg < 0
      · obtain ⟨e2, f2⟩ := y5 hw
        rcases (by omega : x'.sg = y'.sg ∨ x'.sg < y'.sg ∨ y'.sg < x'.sg) with e | hl | hl
        · rw [e1, e2, e]; exact ⟨true, β, met_same h _⟩
        · rw [e1, e2]; exact ⟨true, _, met_vars h hsx hl hw f1 f2⟩
        · rw [e1, e2]; exact ⟨true, _, met_symm (met_vars h hsy hl hv f2 f1)⟩
      · rw [e1]
        by_cases ho : x'.sg ∈ (y'.inst θ).flat
        · exact ⟨false, β, met_occurs h hv y1 (by omega) ho β⟩
        · exact ⟨true, _, met_bind h hsx hv f1 y1 y2 y3 ho fun w e _ => by rw [e] at hw; exact absurd (by assumption) hw⟩
    · by_cases hw : y'.sg < 0
      · obtain ⟨e2, f2⟩ := y5 hw
        rw [e2]
        by_cases ho : y'.sg ∈ (x'.inst θ).flat
        · exact ⟨false, β, met_symm (met_occurs h hw x1 (by omega) ho β)⟩
        · exact ⟨true, _, met_symm (met_bind h hsy hw f2 x1 x2 x3 ho fun w e _ => by rw [e] at hv; exact absurd (by assumption) hv)⟩
      · by_cases hvw : x'.sg = y'.sg
        · have hsz : (x'.inst θ).size < m + 1 := by rw [x4]; exact hm
          cases x' with
          | leaf s =>
            cases y' with
            | leaf s' => have : s = s' := hvw; subst this; exact ⟨true, β, met_same h _⟩
            | un s' a => have : s = s' := hvw; subst this; have a1 : ar s = 0 := x1; have a2 := y1.1; omega
            | bin s' a b => have : s = s' := hvw; subst this; have a1 : ar s = 0 := x1; have a2 := y1.1; omega
          | un s a =>
            cases y' with
            | leaf s' => have : s = s' := hvw; subst this; have a1 : ar s = 0 := y1; have a2 := x1.1; omega
            | bin s' c d => have : s = s' := hvw; subst this; have a1 := y1.1; have a2 := x1.1; omega
            | un s' c =>
              have : s = s' := hvw
              subst this
              have hz : (a.inst θ).size + 1 < m + 1 := hsz
              obtain ⟨is, β', k⟩ := exists_met (n + 1) m β θ a c h x1.2 y1.2 (fun q hq => x2 q (by simp [Tm.flat, hq])) (fun q hq => y2 q (by simp [Tm.flat, hq])) (by simp [Tm.size] at x3; omega) (by simp [Tm.size] at y3; omega) hn (by omega)
              exact ⟨is, β', met_un k⟩
          | bin s a b =>
            cases y' with
            | leaf s' => have : s = s' := hvw; subst this; have a1 : ar s = 0 := y1; have a2 := x1.1; omega
            | un s' c => have : s = s' := hvw; subst this; have a1 := y1.1; have a2 := x1.1; omega
            | bin s' c d =>
              have : s = s' := hvw
              subst this
              have hz : (a.inst θ).size + (b.inst θ).size + 1 < m + 1 := hsz
              simp [Tm.size] at x3 y3
              obtain ⟨is, β', k⟩ := exists_met (n + 1) m β θ a c h x1.2.1 y1.2.1 (fun q hq => x2 q (by simp [Tm.flat, hq])) (fun q hq => y2 q (by simp [Tm.flat, hq])) (by omega) (by omega) hn (by omega)
              cases is with
              | false => exact ⟨false, β', met_bin_no k⟩
              | true =>
                have k0 := k
                unfold Met at k
                rw [if_pos rfl] at k
                obtain ⟨k1, ⟨θ', k2⟩, -⟩ := k
                rcases k1 with rfl | k1
                · obtain ⟨is, β'', q⟩ := exists_met (n + 1) m β' θ b d h x1.2.2 y1.2.2 (fun q hq => x2 q (by simp [Tm.flat, hq])) (fun q hq => y2 q (by simp [Tm.flat, hq])) (by omega) (by omega) hn (by omega)
                  exact ⟨is, β'', met_bin k0 q⟩
                · obtain ⟨is, β'', q⟩ := exists_met n ((b.inst θ').size + 1) β' θ' b d k2 x1.2.2 y1.2.2 (fun q hq => x2 q (by simp [Tm.flat, hq])) (fun q hq => y2 q (by simp [Tm.flat, hq])) (by omega) (by omega) (by omega) (by omega)
                  exact ⟨is, β'', met_bin k0 q⟩
        · exact ⟨false, β, met_clash (by omega) (by omega) hvw⟩
termination_by n m => (n, m)

/-- Right pairs, as trees. -/
def RtP (p : Tm × Tm) : Prop := p.1.ok ∧ p.2.ok ∧ (∀ s ∈ p.1.flat, -8 ≤ s ∧ s < 6) ∧ (∀ s ∈ p.2.flat, -8 ≤ s ∧ s < 6) ∧ p.1.size ≤ 30 ∧ p.2.size ≤ 30
theorem rtP_of {a b : List Int} (ha : chk a = 0) (hb : chk b = 0) : RtP (tmOf a, tmOf b) := by
  obtain ⟨h1, h2⟩ := tm_chk ha
  obtain ⟨k1, k2⟩ := tm_chk hb
  exact ⟨h1, k1, by rw [h2]; exact signs_of_chk ha, by rw [k2]; exact signs_of_chk hb, by rw [← size_flat, h2]; exact len_of_chk ha, by rw [← size_flat, k2]; exact len_of_chk hb⟩

/-- Bindings behind some pairs. -/
def MetL (l : List (Tm × Tm)) (is : Bool) (β : Bn) : Prop :=
  if is = true then (∃ θ, St β θ) ∧ ∀ τ, Sat τ β ↔ ∀ p ∈ l, p.1.inst τ = p.2.inst τ else ∀ τ : Int → Tm, ¬ ∀ p ∈ l, p.1.inst τ = p.2.inst τ
theorem metL_nil : MetL [] true (fun _ => none) := by
  unfold MetL; rw [if_pos rfl]
  exact ⟨⟨_, St.start⟩, fun τ => ⟨fun _ p hp => by simp at hp, fun _ v t e => by cases e⟩⟩
theorem metL_snoc {l : List (Tm × Tm)} {β β' : Bn} {x y : Tm} {is : Bool} (h : MetL l true β) (k : Met β x y is β') : MetL (l ++ [(x, y)]) is β' := by
  unfold MetL at h ⊢
  unfold Met at k
  rw [if_pos rfl] at h
  have hs : ∀ τ : Int → Tm, (∀ p ∈ l ++ [(x, y)], p.1.inst τ = p.2.inst τ) ↔ (∀ p ∈ l, p.1.inst τ = p.2.inst τ) ∧ x.inst τ = y.inst τ := by
    intro τ
    constructor
    · intro q
      exact ⟨fun p hp => q p (by simp [hp]), q (x, y) (by simp)⟩
    · rintro ⟨q1, q2⟩ p hp
      rcases List.mem_append.1 hp with hp | hp
      · exact q1 p hp
      · simp at hp; subst hp; exact q2
  cases is with
  | true =>
    rw [if_pos rfl] at k ⊢
    exact ⟨k.2.1, fun τ => by rw [k.2.2, h.2, hs]⟩
  | false =>
    rw [if_neg (by decide)] at k ⊢
    intro τ q
    rw [hs] at q
    exact k τ ((h.2 τ).2 q.1) q.2
theorem metL_no {l m : List (Tm × Tm)} {β : Bn} (h : MetL l false β) : MetL (l ++ m) false β := by
  unfold MetL at h ⊢
  rw [if_neg (by decide)] at h ⊢
  exact fun τ k => h τ fun p hp => k p (by simp [hp])
theorem solveR_no {l : List (Tm × Tm)} {β : Bn} (h : MetL l false β) : SolveR l [] false 0 := by
  unfold MetL at h
  rw [if_neg (by decide)] at h
  exact .inl ⟨rfl, rfl, rfl, h⟩
theorem solveR_yes {l : List (Tm × Tm)} {β : Bn} {θ : Int → Tm} (h : MetL l true β) (hs : St β θ) : Mgu l θ ∧ SgS θ := by
  unfold MetL at h
  rw [if_pos rfl] at h
  exact ⟨hs.mgu h.2, hs.signs⟩

theorem exists_metL : ∀ (l m : List (Tm × Tm)) (β : Bn), (∀ p ∈ l, RtP p) → MetL m true β → ∃ is β', MetL (m ++ l) is β'
  | [], m, β, _, h => ⟨true, β, by rw [List.append_nil]; exact h⟩
  | (x, y) :: l, m, β, hl, h => by
    have h0 := h
    unfold MetL at h
    rw [if_pos rfl] at h
    obtain ⟨θ, hθ⟩ := h.1
    obtain ⟨a1, a2, a3, a4, a5, a6⟩ := hl (x, y) (List.mem_cons_self ..)
    obtain ⟨is, β', k⟩ := exists_met _ _ β θ x y hθ a1 a2 a3 a4 a5 a6 (Nat.lt_succ_self _) (Nat.lt_succ_self _)
    have k' := metL_snoc h0 k
    cases is with
    | false => exact ⟨false, β', by have := metL_no (m := l) k'; simpa using this⟩
    | true =>
      obtain ⟨is, β'', q⟩ := exists_metL l (m ++ [(x, y)]) β' (fun p hp => hl p (List.mem_cons_of_mem _ hp)) k'
      exact ⟨is, β'', by simpa using q⟩

theorem exists_sln {l : List (Tm × Tm)} (hl : ∀ p ∈ l, RtP p) : ∃ r : Sln, SolveR l r.1 r.2.1 r.2.2 := by
  obtain ⟨is, β, h⟩ := exists_metL l [] _ hl metL_nil
  rw [List.nil_append] at h
  cases is with
  | false => exact ⟨([], false, 0), solveR_no h⟩
  | true =>
    have h0 := h
    unfold MetL at h
    rw [if_pos rfl] at h
    obtain ⟨θ, hθ⟩ := h.1
    obtain ⟨k1, k2⟩ := solveR_yes h0 hθ
    by_cases hs : smallS θ
    · exact ⟨(meetS θ, true, 0), .inr ⟨θ, k1, k2, .inl ⟨hs, rfl, rfl, rfl⟩⟩⟩
    · exact ⟨([], false, 2), .inr ⟨θ, k1, k2, .inr ⟨hs, rfl, rfl, rfl⟩⟩⟩

def FbOk (fb : Fb) : Prop := ∀ l, (∀ p ∈ l, RtP p) → SolveR l (fb l).1 (fb l).2.1 (fb l).2.2
theorem exists_fb : ∃ fb : Fb, FbOk fb := by
  have h : ∀ l : List (Tm × Tm), ∃ r : Sln, (∀ p ∈ l, RtP p) → SolveR l r.1 r.2.1 r.2.2 := fun l => by
    by_cases hl : ∀ p ∈ l, RtP p
    · obtain ⟨r, hr⟩ := exists_sln hl
      exact ⟨r, fun _ => hr⟩
    · exact ⟨([], false, 0), fun k => absurd k hl⟩
  exact ⟨fun l => (h l).choose, fun l => (h l).choose_spec⟩

theorem solX_R {fb : Fb} (hfb : FbOk fb) {l : List (Tm × Tm)} (hl : ∀ p ∈ l, RtP p) : SolveR l (solX fb l).1 (solX fb l).2.1 (solX fb l).2.2 := by
  have h1 := solF_right 200 l [] .leaf (fun p hp => ⟨(hl p hp).1, (hl p hp).2.1⟩) mgu_nil
  rw [List.append_nil] at h1
  unfold solX
  match hs : solF 200 l .leaf, h1 with
  | none, _ => exact hfb l hl
  | some none, h1 => exact .inl ⟨rfl, rfl, rfl, h1⟩
  | some (some τ), hτ =>
    dsimp only
    obtain ⟨r, h⟩ := exists_sln hl
    rcases h with ⟨-, -, -, hn⟩ | ⟨θ, hθ, hg, -⟩
    · exact absurd hτ.same (hn τ)
    · have hu := hθ.unique hτ fun _ => Iff.rfl
      have hg' : SgS τ := fun v h8 hv => by rw [← hu v hv]; exact hg v h8 hv
      by_cases hs : smB τ = true
      · rw [if_pos hs]; exact .inr ⟨τ, hτ, hg', .inl ⟨smB_iff.1 hs, rfl, rfl, rfl⟩⟩
      · rw [if_neg hs]; exact .inr ⟨τ, hτ, hg', .inr ⟨fun e => hs (smB_iff.2 e), rfl, rfl, rfl⟩⟩
theorem solX_eq {fb : Fb} (hfb : FbOk fb) {l : List (Tm × Tm)} (hl : ∀ p ∈ l, RtP p) {s : List (List Int)} {is : Bool} {e : Int} (h : SolveR l s is e) : s = (solX fb l).1 ∧ is = (solX fb l).2.1 ∧ e = (solX fb l).2.2 := by
  have := solveR_unique (r := (s, is, e)) h (solX_R hfb hl)
  rw [← this]
  exact ⟨rfl, rfl, rfl⟩

end Go.Proofs.Ytepddehodmljeaa
