/- Plain: steps of rules; chains below a term; peaks; one form. No program in sight. -/
import Derived.Test.YtepddehodmljeaaG2
namespace Go.Proofs.Ytepddehodmljeaa

abbrev Rl := List (Tm × Tm)
/-- A way of what variables become. -/
def OkS (σ : Int → Tm) : Prop := ∀ v, v < 0 → (σ v).ok

/-- One step, wherever it stands. -/
inductive Rw (R : Rl) : Tm → Tm → Prop
  | top {l r : Tm} (σ : Int → Tm) : (l, r) ∈ R → OkS σ → Rw R (l.inst σ) (r.inst σ)
  | un {a b : Tm} (s : Int) : Rw R a b → Rw R (.un s a) (.un s b)
  | left {a b : Tm} (s : Int) (c : Tm) : Rw R a b → Rw R (.bin s a c) (.bin s b c)
  | right {a b : Tm} (s : Int) (c : Tm) : Rw R a b → Rw R (.bin s c a) (.bin s c b)

/-- Steps, none or more. -/
inductive Rt (R : Rl) : Tm → Tm → Prop
  | refl (a : Tm) : Rt R a a
  | step {a b c : Tm} : Rw R a b → Rt R b c → Rt R a c

/-- Right rules that fall. -/
structure Falls (rk : Int → Int) (R : Rl) : Prop where
  okl : ∀ l r, (l, r) ∈ R → l.ok
  okr : ∀ l r, (l, r) ∈ R → r.ok
  sg : ∀ l r, (l, r) ∈ R → 0 ≤ l.sg
  gt : ∀ l r, (l, r) ∈ R → gt rk l r = true
  var : ∀ l r, (l, r) ∈ R → ∀ v ∈ r.flat, v < 0 → v ∈ l.flat
  own : ∀ l r, (l, r) ∈ R → ∀ v ∈ l.flat, -4 ≤ v

variable {rk : Int → Int} {R : Rl}

theorem Rt.one {a b : Tm} (h : Rw R a b) : Rt R a b := .step h (.refl _)
theorem Rt.trans {a b c : Tm} (h : Rt R a b) (k : Rt R b c) : Rt R a c := by
  induction h with
  | refl => exact k
  | step h _ ih => exact .step h (ih k)
theorem Rt.un {a b : Tm} (s : Int) (h : Rt R a b) : Rt R (.un s a) (.un s b) := by
  induction h with
  | refl => exact .refl _
  | step h _ ih => exact .step (.un s h) ih
theorem Rt.left {a b : Tm} (s : Int) (c : Tm) (h : Rt R a b) : Rt R (.bin s a c) (.bin s b c) := by
  induction h with
  | refl => exact .refl _
  | step h _ ih => exact .step (.left s c h) ih
theorem Rt.right {a b : Tm} (s : Int) (c : Tm) (h : Rt R a b) : Rt R (.bin s c a) (.bin s c b) := by
  induction h with
  | refl => exact .refl _
  | step h _ ih => exact .step (.right s c h) ih

theorem Rw.down (hF : Falls rk R) {a b : Tm} (h : Rw R a b) : a.ok → gt rk a b = true ∧ b.ok := by
  induction h with
  | top σ hm hσ => intro _; exact ⟨gt_inst σ (hF.gt _ _ hm), inst_ok hσ (hF.okr _ _ hm)⟩
  | un s _ ih => intro ha; exact ⟨gt_un (by have := ar_pos (s := s) (by rw [ha.1]; decide); omega) (ih ha.2).1, ha.1, (ih ha.2).2⟩
  | left s c _ ih => intro ha; exact ⟨gt_left (by have := ar_pos (s := s) (by rw [ha.1]; decide); omega) (ih ha.2.1).1, ha.1, (ih ha.2.1).2, ha.2.2⟩
  | right s c _ ih => intro ha; exact ⟨gt_right (by have := ar_pos (s := s) (by rw [ha.1]; decide); omega) (ih ha.2.2).1, ha.1, ha.2.1, (ih ha.2.2).2⟩
theorem Rt.ok (hF : Falls rk R) {a b : Tm} (h : Rt R a b) : a.ok → b.ok := by
  induction h with
  | refl => exact id
  | step h _ ih => intro ha; exact ih (h.down hF ha).2
theorem Rt.down (hF : Falls rk R) {a b u : Tm} (h : Rt R a b) : a.ok → gt rk u a = true → gt rk u b = true := by
  induction h with
  | refl => exact fun _ h => h
  | step h _ ih => intro ha hu; exact ih (h.down hF ha).2 (gt_trans hu (h.down hF ha).1)

/-- A chain of steps, back and forth, all of it below u. -/
inductive Conn (rk : Int → Int) (R : Rl) (u : Tm) : Tm → Tm → Prop
  | refl {a : Tm} : a.ok → gt rk u a = true → Conn rk R u a a
  | fwd {a b c : Tm} : a.ok → gt rk u a = true → Rw R a b → Conn rk R u b c → Conn rk R u a c
  | bwd {a b c : Tm} : a.ok → gt rk u a = true → Rw R b a → Conn rk R u b c → Conn rk R u a c

namespace Conn
variable {u a b c : Tm}
theorem trans (h : Conn rk R u a b) (k : Conn rk R u b c) : Conn rk R u a c := by
  induction h with
  | refl => exact k
  | fwd h1 h2 h3 _ ih => exact .fwd h1 h2 h3 (ih k)
  | bwd h1 h2 h3 _ ih => exact .bwd h1 h2 h3 (ih k)
theorem start (h : Conn rk R u a b) : a.ok ∧ gt rk u a = true := by cases h <;> exact ⟨by assumption, by assumption⟩
theorem stop (h : Conn rk R u a b) : b.ok ∧ gt rk u b = true := by
  induction h with
  | refl h1 h2 => exact ⟨h1, h2⟩
  | fwd _ _ _ _ ih => exact ih
  | bwd _ _ _ _ ih => exact ih
theorem symm (h : Conn rk R u a b) : Conn rk R u b a := by
  induction h with
  | refl h1 h2 => exact .refl h1 h2
  | fwd h1 h2 h3 h4 ih => exact ih.trans (.bwd h4.start.1 h4.start.2 h3 (.refl h1 h2))
  | bwd h1 h2 h3 h4 ih => exact ih.trans (.fwd h4.start.1 h4.start.2 h3 (.refl h1 h2))
theorem weak {u' : Tm} (h : Conn rk R u a b) (hu : gt rk u' u = true) : Conn rk R u' a b := by
  induction h with
  | refl h1 h2 => exact .refl h1 (gt_trans hu h2)
  | fwd h1 h2 h3 _ ih => exact .fwd h1 (gt_trans hu h2) h3 ih
  | bwd h1 h2 h3 _ ih => exact .bwd h1 (gt_trans hu h2) h3 ih
theorem of_rt (hF : Falls rk R) (h : Rt R a b) : a.ok → gt rk u a = true → Conn rk R u a b := by
  induction h with
  | refl => exact fun h1 h2 => .refl h1 h2
  | step h _ ih => intro ha hu; exact .fwd ha hu h (ih (h.down hF ha).2 (gt_trans hu (h.down hF ha).1))
theorem un {s : Int} (hs : ar s = 1) (h : Conn rk R u a b) : Conn rk R (.un s u) (.un s a) (.un s b) := by
  have h0 : 0 ≤ s := by have := ar_pos (s := s) (by rw [hs]; decide); omega
  induction h with
  | refl h1 h2 => exact .refl ⟨hs, h1⟩ (gt_un h0 h2)
  | fwd h1 h2 h3 _ ih => exact .fwd ⟨hs, h1⟩ (gt_un h0 h2) (.un s h3) ih
  | bwd h1 h2 h3 _ ih => exact .bwd ⟨hs, h1⟩ (gt_un h0 h2) (.un s h3) ih
theorem left {s : Int} {d : Tm} (hs : ar s = 2) (hd : d.ok) (h : Conn rk R u a b) : Conn rk R (.bin s u d) (.bin s a d) (.bin s b d) := by
  have h0 : 0 ≤ s := by have := ar_pos (s := s) (by rw [hs]; decide); omega
  induction h with
  | refl h1 h2 => exact .refl ⟨hs, h1, hd⟩ (gt_left h0 h2)
  | fwd h1 h2 h3 _ ih => exact .fwd ⟨hs, h1, hd⟩ (gt_left h0 h2) (.left s d h3) ih
  | bwd h1 h2 h3 _ ih => exact .bwd ⟨hs, h1, hd⟩ (gt_left h0 h2) (.left s d h3) ih
theorem right {s : Int} {d : Tm} (hs : ar s = 2) (hd : d.ok) (h : Conn rk R u a b) : Conn rk R (.bin s d u) (.bin s d a) (.bin s d b) := by
  have h0 : 0 ≤ s := by have := ar_pos (s := s) (by rw [hs]; decide); omega
  induction h with
  | refl h1 h2 => exact .refl ⟨hs, hd, h1⟩ (gt_right h0 h2)
  | fwd h1 h2 h3 _ ih => exact .fwd ⟨hs, hd, h1⟩ (gt_right h0 h2) (.right s d h3) ih
  | bwd h1 h2 h3 _ ih => exact .bwd ⟨hs, hd, h1⟩ (gt_right h0 h2) (.right s d h3) ih
end Conn

/-- Each peak of two steps is joined below. -/
def Peaks (rk : Int → Int) (R : Rl) : Prop := ∀ w y z, w.ok → Rw R w y → Rw R w z → Conn rk R w y z

theorem join_of_conn (h0 : ∀ s, 0 ≤ rk s) (hF : Falls rk R) (hP : Peaks rk R) : ∀ (u a b : Tm), Conn rk R u a b → ∃ c, Rt R a c ∧ Rt R b c := by
  intro u
  induction u using (gt_wf h0).induction with
  | h u ih =>
    have ih : ∀ v, gt rk u v = true → ∀ a b, Conn rk R v a b → ∃ c, Rt R a c ∧ Rt R b c := ih
    intro a b h
    induction h with
    | @refl a _ _ => exact ⟨a, .refl _, .refl _⟩
    | fwd _ _ h3 _ ih2 => obtain ⟨d, h5, h6⟩ := ih2; exact ⟨d, .step h3 h5, h6⟩
    | @bwd a a1 b h1 h2 h3 h4 ih2 =>
      obtain ⟨d, h5, h6⟩ := ih2
      have hu1 := h4.start
      cases h5 with
      | refl => exact ⟨a, .refl _, h6.trans (.one h3)⟩
      | @step _ z _ h7 h8 =>
        obtain ⟨e, h9, h10⟩ := ih a1 hu1.2 a z (hP a1 a z hu1.1 h3 h7)
        have hz := h7.down hF hu1.1
        have c1 : Conn rk R a1 e d := ((Conn.of_rt hF h10 hz.2 hz.1).symm).trans (Conn.of_rt hF h8 hz.2 hz.1)
        obtain ⟨f, h11, h12⟩ := ih a1 hu1.2 e d c1
        exact ⟨f, h9.trans h11, h6.trans h12⟩

theorem conf_of_peaks (h0 : ∀ s, 0 ≤ rk s) (hF : Falls rk R) (hP : Peaks rk R) {w y z : Tm} (hw : w.ok) (h1 : Rt R w y) (h2 : Rt R w z) : ∃ c, Rt R y c ∧ Rt R z c := by
  cases h1 with
  | refl => exact ⟨z, h2, .refl _⟩
  | step a1 b1 =>
    cases h2 with
    | refl => exact ⟨y, .refl _, .step a1 b1⟩
    | step a2 b2 =>
      have d1 := a1.down hF hw
      have d2 := a2.down hF hw
      exact join_of_conn h0 hF hP w y z (((Conn.of_rt hF b1 d1.2 d1.1).symm.trans (hP w _ _ hw a1 a2)).trans (Conn.of_rt hF b2 d2.2 d2.1))

/-- Nothing goes on from here. -/
def Nf (R : Rl) (a : Tm) : Prop := ∀ b, ¬ Rw R a b
theorem Rt.nf {a b : Tm} (h : Rt R a b) (hn : Nf R a) : b = a := by
  cases h with
  | refl => rfl
  | step h _ => exact absurd h (hn _)

/-- Back and forth, however high. -/
inductive Cv (R : Rl) : Tm → Tm → Prop
  | refl (a : Tm) : Cv R a a
  | fwd {a b c : Tm} : Rw R a b → Cv R b c → Cv R a c
  | bwd {a b c : Tm} : b.ok → Rw R b a → Cv R b c → Cv R a c
theorem Cv.trans {a b c : Tm} (h : Cv R a b) (k : Cv R b c) : Cv R a c := by
  induction h with
  | refl => exact k
  | fwd h _ ih => exact .fwd h (ih k)
  | bwd ho h _ ih => exact .bwd ho h (ih k)
theorem Cv.of_rt {a b : Tm} (h : Rt R a b) : Cv R a b := by
  induction h with
  | refl => exact .refl _
  | step h _ ih => exact .fwd h ih
theorem Cv.of_conn {u a b : Tm} (h : Conn rk R u a b) : Cv R a b := by
  induction h with
  | refl => exact .refl _
  | fwd _ _ h _ ih => exact .fwd h ih
  | bwd _ _ h k ih => exact .bwd k.start.1 h ih
theorem Cv.back (hF : Falls rk R) {a b : Tm} (ha : a.ok) (h : Rt R a b) : Cv R b a := by
  induction h with
  | refl => exact .refl _
  | step h _ ih => exact (ih (h.down hF ha).2).trans (.bwd ha h (.refl _))
theorem join_of_cv (h0 : ∀ s, 0 ≤ rk s) (hF : Falls rk R) (hP : Peaks rk R) {a b : Tm} (h : Cv R a b) : a.ok → ∃ c, Rt R a c ∧ Rt R b c := by
  induction h with
  | refl a => exact fun _ => ⟨a, .refl _, .refl _⟩
  | fwd h _ ih => intro ha; obtain ⟨c, h1, h2⟩ := ih (h.down hF ha).2; exact ⟨c, .step h h1, h2⟩
  | bwd ho h _ ih =>
    intro _
    obtain ⟨c, h1, h2⟩ := ih ho
    obtain ⟨d, h3, h4⟩ := conf_of_peaks h0 hF hP ho (.one h) h1
    exact ⟨d, h3, h2.trans h4⟩

/-! ### Peaks out of pairs -/
def upd (σ : Int → Tm) (v : Int) (t : Tm) : Int → Tm := fun u => if u = v then t else σ u
theorem upd_ok {σ : Int → Tm} (h : OkS σ) {v : Int} {t : Tm} (ht : t.ok) : OkS (upd σ v t) := by
  intro u hu
  unfold upd
  split
  · exact ht
  · exact h u hu
/-- A variable that goes a step: whatever it stands in goes. -/
theorem rt_upd {σ : Int → Tm} {v : Int} {t : Tm} (h : Rw R (σ v) t) : ∀ l : Tm, Rt R (l.inst σ) (l.inst (upd σ v t))
  | .leaf s => by
    show Rt R (if s < 0 then σ s else .leaf s) (if s < 0 then upd σ v t s else .leaf s)
    split
    · unfold upd
      split
      · rename_i e; subst e; exact .one h
      · exact .refl _
    · exact .refl _
  | .un s a => (rt_upd h a).un s
  | .bin s a b => ((rt_upd h a).left s _).trans ((rt_upd h b).right s _)

/-- The same, with one part of it already otherwise. -/
def plug (σ : Int → Tm) : Tm → Nat → Tm → Tm
  | _, 0, u => u
  | .leaf s, _ + 1, _ => .leaf s
  | .un s a, k + 1, u => .un s (plug σ a k u)
  | .bin s a b, k + 1, u => if k < a.size then .bin s (plug σ a k u) (b.inst σ) else .bin s (a.inst σ) (plug σ b (k - a.size) u)

/-- A step within what a term becomes: within what a variable becomes, or at a symbol of the term's own. -/
theorem rw_inst {σ : Int → Tm} : ∀ (l z : Tm), l.ok → Rw R (l.inst σ) z →
    (∃ v t, v < 0 ∧ v ∈ l.flat ∧ Rw R (σ v) t ∧ Rt R z (l.inst (upd σ v t))) ∨
    (∃ k l2 r2 τ, k < l.size ∧ 0 ≤ (l.sub k).sg ∧ (l2, r2) ∈ R ∧ OkS τ ∧ (l.sub k).inst σ = l2.inst τ ∧ z = plug σ l k (r2.inst τ))
  | .leaf s, z, _, h => by
    by_cases hs : s < 0
    · have e : (Tm.leaf s).inst σ = σ s := if_pos hs
      rw [e] at h
      refine .inl ⟨s, z, hs, by simp [Tm.flat], h, ?_⟩
      have e2 : (Tm.leaf s).inst (upd σ s z) = z := by
        show (if s < 0 then upd σ s z s else .leaf s) = z
        rw [if_pos hs]; simp [upd]
      rw [e2]; exact .refl _
    · have e : (Tm.leaf s).inst σ = .leaf s := if_neg hs
      generalize hx : (Tm.leaf s).inst σ = x at h
      cases h with
      | @top l2 r2 τ hm hτ => exact .inr ⟨0, l2, r2, τ, by simp [Tm.size], Int.not_lt.1 hs, hm, hτ, by rw [sub_zero]; exact hx, rfl⟩
      | un => rw [e] at hx; cases hx
      | left => rw [e] at hx; cases hx
      | right => rw [e] at hx; cases hx
  | .un s a, z, hl, h => by
    have hs : 0 ≤ s := by have := ar_pos (s := s) (by rw [hl.1]; decide); omega
    generalize hx : (Tm.un s a).inst σ = x at h
    have hx' : Tm.un s (a.inst σ) = x := hx
    cases h with
    | @top l2 r2 τ hm hτ => exact .inr ⟨0, l2, r2, τ, by simp [Tm.size], hs, hm, hτ, by rw [sub_zero]; exact hx, rfl⟩
    | left => cases hx'
    | right => cases hx'
    | un s' h =>
      cases hx'
      rcases rw_inst a _ hl.2 h with ⟨v, t, h1, h2, h3, h4⟩ | ⟨k, l2, r2, τ, h1, h2, h3, h4, h5, rfl⟩
      · exact .inl ⟨v, t, h1, by simp [Tm.flat, h2], h3, h4.un s⟩
      · exact .inr ⟨k + 1, l2, r2, τ, by simp [Tm.size]; omega, h2, h3, h4, h5, rfl⟩
  | .bin s a b, z, hl, h => by
    have hs : 0 ≤ s := by have := ar_pos (s := s) (by rw [hl.1]; decide); omega
    generalize hx : (Tm.bin s a b).inst σ = x at h
    have hx' : Tm.bin s (a.inst σ) (b.inst σ) = x := hx
    cases h with
    | @top l2 r2 τ hm hτ => exact .inr ⟨0, l2, r2, τ, by simp [Tm.size], hs, hm, hτ, by rw [sub_zero]; exact hx, rfl⟩
    | un => cases hx'
    | left s' c h =>
      cases hx'
      rcases rw_inst a _ hl.2.1 h with ⟨v, t, h1, h2, h3, h4⟩ | ⟨k, l2, r2, τ, h1, h2, h3, h4, h5, rfl⟩
      · exact .inl ⟨v, t, h1, by simp [Tm.flat, h2], h3, (h4.left s _).trans ((rt_upd h3 b).right s _)⟩
      · refine .inr ⟨k + 1, l2, r2, τ, by simp [Tm.size]; omega, ?_, h3, h4, ?_, ?_⟩
        · show 0 ≤ (if k < a.size then a.sub k else _).sg
          rw [if_pos h1]; exact h2
        · show (if k < a.size then a.sub k else _).inst σ = _
          rw [if_pos h1]; exact h5
        · show _ = if k < a.size then _ else _
          rw [if_pos h1]
    | right s' c h =>
      cases hx'
      rcases rw_inst b _ hl.2.2 h with ⟨v, t, h1, h2, h3, h4⟩ | ⟨k, l2, r2, τ, h1, h2, h3, h4, h5, rfl⟩
      · exact .inl ⟨v, t, h1, by simp [Tm.flat, h2], h3, (h4.right s _).trans ((rt_upd h3 a).left s _)⟩
      · have hk : ¬ a.size + k < a.size := by omega
        refine .inr ⟨a.size + k + 1, l2, r2, τ, by simp [Tm.size]; omega, ?_, h3, h4, ?_, ?_⟩
        · show 0 ≤ (if a.size + k < a.size then _ else b.sub (a.size + k - a.size)).sg
          rw [if_neg hk, Nat.add_sub_cancel_left]; exact h2
        · show (if a.size + k < a.size then _ else b.sub (a.size + k - a.size)).inst σ = _
          rw [if_neg hk, Nat.add_sub_cancel_left]; exact h5
        · show _ = if a.size + k < a.size then _ else Tm.bin s (a.inst σ) (plug σ b (a.size + k - a.size) _)
          rw [if_neg hk, Nat.add_sub_cancel_left]

/-- A rule with its variables made others. -/
def oth (x : Tm) : Tm := x.inst fun v => .leaf (v - 4)
def mix (σ τ : Int → Tm) : Int → Tm := fun v => if v < -4 then τ (v + 4) else σ v
theorem mix_ok {σ τ : Int → Tm} (h : OkS σ) (k : OkS τ) : OkS (mix σ τ) := by
  intro v hv
  unfold mix
  split
  · exact k _ (by omega)
  · exact h v hv
theorem oth_inst (x : Tm) (θ : Int → Tm) : (oth x).inst θ = x.inst fun v => θ (v - 4) := by
  unfold oth
  rw [inst_inst]
  refine inst_congr fun v _ hv => ?_
  show (if v - 4 < 0 then θ (v - 4) else _) = _
  rw [if_pos (by omega)]
theorem oth_mix (x : Tm) (σ τ : Int → Tm) : (oth x).inst (mix σ τ) = x.inst τ := by
  rw [oth_inst]
  refine inst_congr fun v _ hv => ?_
  unfold mix
  rw [if_pos (by omega), Int.sub_add_cancel]
theorem inst_mix {x : Tm} (h : ∀ v ∈ x.flat, -4 ≤ v) (σ τ : Int → Tm) : x.inst (mix σ τ) = x.inst σ := by
  refine inst_congr fun v hv _ => ?_
  unfold mix
  rw [if_neg (by have := h v hv; omega)]
theorem plug_mix {σ τ : Int → Tm} (u : Tm) : ∀ (l : Tm) (k : Nat), (∀ v ∈ l.flat, -4 ≤ v) → k < l.size → plug σ l k (u.inst τ) = (l.put k (oth u)).inst (mix σ τ)
  | l, 0, _, _ => by
    rw [put_zero, oth_mix]
    cases l <;> rfl
  | .leaf s, k + 1, _, hk => by simp [Tm.size] at hk
  | .un s a, k + 1, ho, hk => by
    show Tm.un s _ = Tm.un s _
    rw [plug_mix u a k (fun v hv => ho v (by simp [Tm.flat, hv])) (by simp [Tm.size] at hk; omega)]
  | .bin s a b, k + 1, ho, hk => by
    have h1 : ∀ v ∈ a.flat, -4 ≤ v := fun v hv => ho v (by simp [Tm.flat, hv])
    have h2 : ∀ v ∈ b.flat, -4 ≤ v := fun v hv => ho v (by simp [Tm.flat, hv])
    show (if k < a.size then Tm.bin s (plug σ a k (u.inst τ)) (b.inst σ) else Tm.bin s (a.inst σ) (plug σ b (k - a.size) (u.inst τ))) = (if k < a.size then Tm.bin s (a.put k (oth u)) b else Tm.bin s a (b.put (k - a.size) (oth u))).inst (mix σ τ)
    split
    · show _ = Tm.bin s _ _
      rw [plug_mix u a k h1 (by assumption), inst_mix h2]
    · show _ = Tm.bin s _ _
      rw [plug_mix u b _ h2 (by simp [Tm.size] at hk; omega), inst_mix h1]

theorem inst_inj {σ τ : Int → Tm} : ∀ {x : Tm}, x.ok → x.inst σ = x.inst τ → ∀ v ∈ x.flat, v < 0 → σ v = τ v
  | .leaf s, _, h, v, hv, h0 => by
    simp [Tm.flat] at hv
    subst hv
    have h' : (if v < 0 then σ v else .leaf v) = (if v < 0 then τ v else .leaf v) := h
    rwa [if_pos h0, if_pos h0] at h'
  | .un s a, ho, h, v, hv, h0 => by
    have h' : Tm.un s (a.inst σ) = .un s (a.inst τ) := h
    simp only [Tm.un.injEq, true_and] at h'
    simp [Tm.flat] at hv
    rcases hv with rfl | hv
    · have := ar_pos (s := v) (by rw [ho.1]; decide); omega
    · exact inst_inj ho.2 h' v hv h0
  | .bin s a b, ho, h, v, hv, h0 => by
    have h' : Tm.bin s (a.inst σ) (b.inst σ) = .bin s (a.inst τ) (b.inst τ) := h
    simp only [Tm.bin.injEq, true_and] at h'
    simp [Tm.flat] at hv
    rcases hv with rfl | hv | hv
    · have := ar_pos (s := v) (by rw [ho.1]; decide); omega
    · exact inst_inj ho.2.1 h'.1 v hv h0
    · exact inst_inj ho.2.2 h'.2 v hv h0

/-- Each pair of rules laid over each other is joined below. -/
def CPs (rk : Int → Int) (R : Rl) : Prop := ∀ l1 r1 l2 r2 k θ, (l1, r1) ∈ R → (l2, r2) ∈ R → k < l1.size → 0 ≤ (l1.sub k).sg → ¬ (k = 0 ∧ (l1, r1) = (l2, r2)) → OkS θ →
  (l1.sub k).inst θ = (oth l2).inst θ → Conn rk R (l1.inst θ) ((l1.put k (oth r2)).inst θ) (r1.inst θ)

theorem peak_root (hF : Falls rk R) (hC : CPs rk R) {l1 r1 z : Tm} {σ : Int → Tm} (hm : (l1, r1) ∈ R) (hσ : OkS σ) (h : Rw R (l1.inst σ) z) : Conn rk R (l1.inst σ) (r1.inst σ) z := by
  have hl := hF.okl _ _ hm
  have hr := hF.okr _ _ hm
  have ho := hF.own _ _ hm
  have hlo := inst_ok hσ hl
  have hdz := h.down hF hlo
  have hdr : gt rk (l1.inst σ) (r1.inst σ) = true := gt_inst σ (hF.gt _ _ hm)
  have hro := inst_ok hσ hr
  rcases rw_inst l1 z hl h with ⟨v, t, h1, h2, h3, h4⟩ | ⟨k, l2, r2, τ, h1, h2, h3, h4, h5, rfl⟩
  · have ht := (h3.down hF (hσ v h1)).2
    have c1 := Conn.of_rt (rk := rk) (u := l1.inst σ) hF (rt_upd h3 r1) hro hdr
    have c2 := Conn.of_rt (rk := rk) (u := l1.inst σ) hF (h4.trans (.one (.top (upd σ v t) hm (upd_ok hσ ht)))) hdz.2 hdz.1
    exact c1.trans c2.symm
  · by_cases hsame : k = 0 ∧ (l1, r1) = (l2, r2)
    · obtain ⟨rfl, e⟩ := hsame
      cases e
      rw [sub_zero] at h5
      have e2 : r1.inst σ = r1.inst τ := inst_congr fun v hv h0 => inst_inj hl h5 v (hF.var _ _ hm v hv h0) h0
      have e3 : plug σ l1 0 (r1.inst τ) = r1.inst τ := by cases l1 <;> rfl
      rw [e3, ← e2]
      exact .refl hro hdr
    · have hc := hC l1 r1 l2 r2 k (mix σ τ) hm h3 h1 h2 hsame (mix_ok hσ h4) (by
        rw [oth_mix, ← h5]
        refine inst_mix (fun v hv => ho v ?_) σ τ
        obtain ⟨pre, r, -, e, -⟩ := sub_split l1 k h1
        rw [e]; simp [hv])
      have ho2 : ∀ v ∈ r1.flat, -4 ≤ v := fun v hv => by
        by_cases h0 : v < 0
        · exact ho v (hF.var _ _ hm v hv h0)
        · omega
      rw [inst_mix ho σ τ, inst_mix ho2 σ τ, ← plug_mix r2 l1 k ho h1] at hc
      exact hc.symm

theorem peaks_of (hF : Falls rk R) (hC : CPs rk R) : Peaks rk R := by
  intro w y z hw h1
  induction h1 generalizing z with
  | top σ hm hσ => intro h2; exact peak_root hF hC hm hσ h2
  | @un a b s h ih =>
    intro h2
    generalize hx : Tm.un s a = x at h2
    cases h2 with
    | @top l2 r2 τ hm hτ => exact (peak_root hF hC hm hτ (hx ▸ Rw.un s h)).symm
    | left => cases hx
    | right => cases hx
    | un s' h' => cases hx; exact (ih _ hw.2 h').un hw.1
  | @left a b s c h ih =>
    intro h2
    generalize hx : Tm.bin s a c = x at h2
    cases h2 with
    | @top l2 r2 τ hm hτ => exact (peak_root hF hC hm hτ (hx ▸ Rw.left s c h)).symm
    | un => cases hx
    | left s' c' h' => cases hx; exact (ih _ hw.2.1 h').left hw.1 hw.2.2
    | @right c2 d s' a' h' =>
      cases hx
      have d1 := (Rw.left s c h).down hF hw
      have d2 := (Rw.right s a h').down hF hw
      exact .fwd d1.2 d1.1 (.right s b h') (.bwd (Rw.right s b h' |>.down hF d1.2).2 (gt_trans d1.1 (Rw.right s b h' |>.down hF d1.2).1) (.left s _ h) (.refl d2.2 d2.1))
  | @right a b s c h ih =>
    intro h2
    generalize hx : Tm.bin s c a = x at h2
    cases h2 with
    | @top l2 r2 τ hm hτ => exact (peak_root hF hC hm hτ (hx ▸ Rw.right s c h)).symm
    | un => cases hx
    | right s' c' h' => cases hx; exact (ih _ hw.2.2 h').right hw.1 hw.2.1
    | @left c2 d s' a' h' =>
      cases hx
      have d1 := (Rw.right s c h).down hF hw
      have d2 := (Rw.left s a h').down hF hw
      exact .fwd d1.2 d1.1 (.left s b h') (.bwd (Rw.left s b h' |>.down hF d1.2).2 (gt_trans d1.1 (Rw.left s b h' |>.down hF d1.2).1) (.right s _ h) (.refl d2.2 d2.1))

end Go.Proofs.Ytepddehodmljeaa
