/- Walks: match.With. -/
import Derived.Test.YtepddehodmljeaaM3
import Derived.Test.YtepddehodmljeaaA5
import Derived.Test.YtepddehodmljeaaT1
import Derived.Outline
namespace Go.Proofs.Ytepddehodmljeaa
open Go.RowKit Go.Maps

/-- Terms one behind the other. -/
def flats (xs : List Tm) : List Int := (xs.map Tm.flat).flatten
theorem flats_cons (x : Tm) (xs : List Tm) : flats (x :: xs) = x.flat ++ flats xs := by simp [flats]
theorem flats_append (xs ys : List Tm) : flats (xs ++ ys) = flats xs ++ flats ys := by simp [flats]
theorem flat_parts (x : Tm) : x.flat = x.sg :: flats x.parts := by cases x <;> simp [Tm.flat, Tm.sg, Tm.parts, flats]
theorem flats_nil {xs : List Tm} (h : flats xs = []) : xs = [] := by
  cases xs with
  | nil => rfl
  | cons x xs => rw [flats_cons] at h; exact absurd (List.append_eq_nil_iff.1 h).1 (flat_ne x)

/-- The map's entries read as what was bound. -/
def BlIs (S : Blk) (w : World) : List (Value × Value) → Bl → Prop
  | [], [] => True
  | q :: l, e :: bl => q.1 = .int .i64 e.1 ∧ IsInts S w q.2 e.2 ∧ BlIs S w l bl
  | _, _ => False
theorem BlIs.mono {S S' : Blk} {w w' : World} (hk : Sok S S' w w') : ∀ {l : List (Value × Value)} {bl : Bl}, BlIs S w l bl → BlIs S' w' l bl
  | [], [], _ => trivial
  | _ :: _, _ :: _, ⟨h1, h2, h3⟩ => ⟨h1, h2.mono hk, h3.mono hk⟩
theorem BlIs.snoc {S : Blk} {w : World} {v : Int} {x : List Int} {u : Value} (hu : IsInts S w u x) : ∀ {l : List (Value × Value)} {bl : Bl}, BlIs S w l bl → BlIs S w (l ++ [(.int .i64 v, u)]) (bl ++ [(v, x)])
  | [], [], _ => ⟨rfl, hu, trivial⟩
  | _ :: _, _ :: _, ⟨h1, h2, h3⟩ => ⟨h1, h2, h3.snoc hu⟩
theorem BlIs.abs {S : Blk} {w : World} {v : Int} : ∀ {l : List (Value × Value)} {bl : Bl}, BlIs S w l bl → lk bl v = none → ∀ p ∈ l, p.1 ≠ .int .i64 v
  | [], [], _, _ => fun p hp => by cases hp
  | q :: l, (k, y) :: bl, ⟨h1, h2, h3⟩, h => by
    rw [lk] at h
    split at h
    · cases h
    · rename_i hk
      intro p hp
      rcases List.mem_cons.1 hp with rfl | hp
      · rw [h1]; intro e; cases e; exact hk rfl
      · exact h3.abs h p hp
theorem BlIs.pres {S : Blk} {w : World} {v : Int} {x : List Int} : ∀ {l : List (Value × Value)} {bl : Bl}, BlIs S w l bl → lk bl v = some x →
    ∃ l1 u l2, l = l1 ++ (.int .i64 v, u) :: l2 ∧ IsInts S w u x ∧ ∀ u', IsInts S w u' x → BlIs S w (l1 ++ (.int .i64 v, u') :: l2) bl
  | [], [], _, h => by cases h
  | (q, u) :: l, (k, y) :: bl, ⟨h1, h2, h3⟩, h => by
    rw [lk] at h
    split at h
    · rename_i hk
      subst hk
      cases h
      have h1' : q = .int .i64 k := h1
      subst h1'
      exact ⟨[], u, l, rfl, h2, fun u' hu => ⟨rfl, hu, h3⟩⟩
    · obtain ⟨l1, u0, l2, rfl, h4, h5⟩ := h3.pres h
      exact ⟨(q, u) :: l1, u0, l2, rfl, h4, fun u' hu => ⟨h1, h2, h5 u' hu⟩⟩

/-- Where With stands: what is still to be read of both, and what was bound. -/
def WithAt (p t : List Int) (i j : Nat) (bl : Bl) : Prop :=
  ∃ Ps Ts, p.drop i = flats Ps ∧ t.drop j = flats Ts ∧ i ≤ p.length ∧ j ≤ t.length ∧ (∀ x ∈ Ps, x.ok) ∧ (∀ x ∈ Ts, x.ok) ∧ fitS Ps Ts bl = fitM (tmOf p) (tmOf t) []

theorem WithAt.start {p t : List Int} (hp : chk p = 0) (ht : chk t = 0) : WithAt p t 0 0 [] := by
  obtain ⟨h1, h2⟩ := tm_chk hp
  obtain ⟨h3, h4⟩ := tm_chk ht
  refine ⟨[tmOf p], [tmOf t], by simp [flats, h2], by simp [flats, h4], by omega, by omega, by simpa using h1, by simpa using h3, ?_⟩
  show (fitM _ _ _).bind _ = _
  simp [fitS]
/-- One of both is read through. -/
theorem WithAt.done {p t : List Int} {i j : Nat} {bl : Bl} (h : WithAt p t i j bl) (hd : ¬ (i < p.length ∧ j < t.length)) : fitM (tmOf p) (tmOf t) [] = some bl := by
  obtain ⟨Ps, Ts, h1, h2, h3, h4, h5, h6, h7⟩ := h
  rw [← h7]
  by_cases hi : i < p.length
  · have : t.drop j = [] := List.drop_of_length_le (by omega)
    rw [this] at h2
    obtain rfl := flats_nil h2.symm
    cases Ps <;> rfl
  · have : p.drop i = [] := List.drop_of_length_le (by omega)
    rw [this] at h1
    obtain rfl := flats_nil h1.symm
    rfl
/-- The heads of what is still to be read. -/
theorem WithAt.heads {p t : List Int} {i j : Nat} {bl : Bl} (h : WithAt p t i j bl) (hi : i < p.length) (hj : j < t.length) :
    ∃ P T Ps Ts, p.drop i = P.flat ++ flats Ps ∧ t.drop j = T.flat ++ flats Ts ∧ P.ok ∧ T.ok ∧ (∀ x ∈ Ps, x.ok) ∧ (∀ x ∈ Ts, x.ok) ∧ fitS (P :: Ps) (T :: Ts) bl = fitM (tmOf p) (tmOf t) [] ∧ nth p i = P.sg ∧ nth t j = T.sg := by
  obtain ⟨Ps, Ts, h1, h2, h3, h4, h5, h6, h7⟩ := h
  cases Ps with
  | nil => have := congrArg List.length h1; simp [flats] at this; omega
  | cons P Ps =>
    cases Ts with
    | nil => have := congrArg List.length h2; simp [flats] at this; omega
    | cons T Ts =>
      rw [flats_cons] at h1 h2
      refine ⟨P, T, Ps, Ts, h1, h2, h5 P (by simp), h6 T (by simp), fun x hx => h5 x (by simp [hx]), fun x hx => h6 x (by simp [hx]), h7, ?_, ?_⟩
      · rw [drop_nth hi, flat_parts] at h1; exact (List.cons.inj h1).1
      · rw [drop_nth hj, flat_parts] at h2; exact (List.cons.inj h2).1

theorem drop_more {p : List Int} {i : Nat} {a b : List Int} (h : p.drop i = a ++ b) : p.drop (i + a.length) = b := by
  rw [← List.drop_drop, h, List.drop_left]

/-- Two symbols that differ. -/
theorem WithAt.clash {p t : List Int} {i j : Nat} {bl : Bl} (h : WithAt p t i j bl) (hi : i < p.length) (hj : j < t.length) (h0 : 0 ≤ nth p i) (hne : nth p i ≠ nth t j) : fitM (tmOf p) (tmOf t) [] = none := by
  obtain ⟨P, T, Ps, Ts, h1, h2, h3, h4, h5, h6, h7, h8, h9⟩ := h.heads hi hj
  rw [← h7]
  show (fitM P T bl).bind _ = _
  rw [fitM_clash (by rw [← h8]; exact h0) h3 h4 (by rw [← h8, ← h9]; exact hne)]; rfl
theorem WithAt.sym {p t : List Int} {i j : Nat} {bl : Bl} (h : WithAt p t i j bl) (hi : i < p.length) (hj : j < t.length) (h0 : 0 ≤ nth p i) (he : nth p i = nth t j) : WithAt p t (i + 1) (j + 1) bl := by
  obtain ⟨P, T, Ps, Ts, h1, h2, h3, h4, h5, h6, h7, h8, h9⟩ := h.heads hi hj
  have e1 : p.drop (i + 1) = flats (P.parts ++ Ps) := by
    rw [drop_nth hi, flat_parts] at h1; rw [flats_append]; exact (List.cons.inj h1).2
  have e2 : t.drop (j + 1) = flats (T.parts ++ Ts) := by
    rw [drop_nth hj, flat_parts] at h2; rw [flats_append]; exact (List.cons.inj h2).2
  refine ⟨P.parts ++ Ps, T.parts ++ Ts, e1, e2, by omega, by omega, ?_, ?_, ?_⟩
  · intro x hx; rcases List.mem_append.1 hx with hx | hx; exact ok_part h3 hx; exact h5 x hx
  · intro x hx; rcases List.mem_append.1 hx with hx | hx; exact ok_part h4 hx; exact h6 x hx
  · rw [← h7, fitS_sym (by rw [← h8]; exact h0) h3 h4 (by rw [← h8, ← h9]; exact he)]
/-- A variable of the first. -/
theorem WithAt.var {p t : List Int} {i j : Nat} {bl : Bl} (h : WithAt p t i j bl) (hi : i < p.length) (hj : j < t.length) (h0 : nth p i < 0) :
    ∃ x, skp t j = ((j + x.length : Nat) : Int) ∧ (t.drop j).take x.length = x ∧ 0 < x.length ∧ j + x.length ≤ t.length ∧
      (lk bl (nth p i) = none → WithAt p t (i + 1) (j + x.length) (bl ++ [(nth p i, x)])) ∧
      (lk bl (nth p i) = some x → WithAt p t (i + 1) (j + x.length) bl) ∧
      (∀ y, lk bl (nth p i) = some y → y ≠ x → fitM (tmOf p) (tmOf t) [] = none) := by
  obtain ⟨P, T, Ps, Ts, h1, h2, h3, h4, h5, h6, h7, h8, h9⟩ := h.heads hi hj
  have hP : P = .leaf (nth p i) := by
    cases P with
    | leaf s => rw [h8]; rfl
    | un s a => have := ar_pos (s := s) (by rw [h3.1]; decide); have e : nth p i = s := h8; omega
    | bin s a b => have := ar_pos (s := s) (by rw [h3.1]; decide); have e : nth p i = s := h8; omega
  have hlen : j + T.flat.length ≤ t.length := by
    have := congrArg List.length h2
    simp only [List.length_drop, List.length_append] at this; omega
  have e1 : p.drop (i + 1) = flats Ps := by
    rw [hP] at h1; exact drop_more (a := [nth p i]) h1
  have e2 : t.drop (j + T.flat.length) = flats Ts := drop_more h2
  rw [hP, fitS_var h0] at h7
  refine ⟨T.flat, ?_, by rw [h2, List.take_left], by rw [size_flat]; exact size_pos T, hlen, fun hn => ?_, fun hs => ?_, fun y hs hne => ?_⟩
  · unfold skp
    rw [if_pos ⟨by omega, by omega⟩, Int.toNat_natCast, h2, need_flat T _ h4]
    have := congrArg List.length h2
    simp only [List.length_drop, List.length_append] at this
    simp only
    omega
  · refine ⟨Ps, Ts, e1, e2, by omega, hlen, h5, h6, ?_⟩
    rw [← h7, bindV, hn]; rfl
  · refine ⟨Ps, Ts, e1, e2, by omega, hlen, h5, h6, ?_⟩
    rw [← h7, bindV, hs]
    simp
  · rw [← h7, bindV, hs]
    simp [hne]

theorem BlIs.none {S : Blk} {w : World} {v : Int} : ∀ {l : List (Value × Value)} {bl : Bl}, BlIs S w l bl → (∀ p ∈ l, p.1 ≠ .int .i64 v) → lk bl v = none
  | [], [], _, _ => rfl
  | q :: l, (k, y) :: bl, ⟨h1, h2, h3⟩, h => by
    have hk : ¬ k = v := fun e => h q (by simp) (by rw [h1, e])
    rw [lk, if_neg hk]
    exact h3.none fun p hp => h p (List.mem_cons_of_mem _ hp)
theorem BlIs.get {S : Blk} {w : World} {x u : Value} : ∀ {l : List (Value × Value)} {bl : Bl}, BlIs S w l bl → (l.map (·.1)).Nodup → (x, u) ∈ l → ∃ s y, x = .int .i64 s ∧ IsInts S w u y ∧ lk bl s = some y
  | [], [], _, _, h => by cases h
  | q :: l, (k, y) :: bl, ⟨h1, h2, h3⟩, hn, h => by
    rw [List.map_cons, List.nodup_cons] at hn
    rcases List.mem_cons.1 h with h | h
    · subst h
      exact ⟨k, y, h1, h2, by rw [lk, if_pos rfl]⟩
    · obtain ⟨s, z, e1, e2, e3⟩ := h3.get hn.2 h
      refine ⟨s, z, e1, e2, ?_⟩
      rw [lk, if_neg, e3]
      rintro rfl
      exact hn.1 (by rw [h1]; exact List.mem_map.2 ⟨_, h, e1⟩)

/-- What is handed out, while td is still to come. -/
def OutAt (bl : Bl) (td : List (Value × Value)) (o : List (List Int)) : Prop :=
  o.length = 8 ∧ ∀ j : Nat, j < 8 → ((∃ q ∈ td, q.1 = Value.int .i64 (-1 - (j : Int))) → nthT o j = [-1 - (j : Int)]) ∧ ((∀ q ∈ td, q.1 ≠ Value.int .i64 (-1 - (j : Int))) → nthT o j = (lk bl (-1 - (j : Int))).getD [-1 - (j : Int)])
theorem OutAt.start {S : Blk} {w : World} {l : List (Value × Value)} {bl : Bl} (h : BlIs S w l bl) : OutAt bl l noneS :=
  ⟨rfl, fun j hj => ⟨fun _ => none_sb j hj, fun hn => by rw [h.none hn]; exact none_sb j hj⟩⟩
theorem OutAt.done {bl : Bl} {o : List (List Int)} (h : OutAt bl [] o) : o = outS bl := by
  refine extT (by rw [h.1, outS_len]) fun j hj => ?_
  rw [h.1] at hj
  rw [(h.2 j hj).2 (fun q hq => by cases hq), nthT_eq (by rw [outS_len]; exact hj)]
  simp [outS]
theorem OutAt.step {bl : Bl} {td td' : List (Value × Value)} {o : List (List Int)} {s : Int} {y : List Int} (h : OutAt bl td o) (hs1 : -8 ≤ s) (hs2 : s < 0) (hl : lk bl s = some y)
    (ht : ∀ q : Value × Value, q ∈ td' ↔ q ∈ td ∧ q.1 ≠ .int .i64 s) : OutAt bl td' (o.set (-1 - s).toNat y) := by
  refine ⟨by rw [List.length_set, h.1], fun j hj => ?_⟩
  have hset : nthT (o.set (-1 - s).toNat y) j = if j = (-1 - s).toNat then y else nthT o j := by
    rw [nthT_eq (by rw [List.length_set, h.1]; exact hj), List.getElem_set]
    by_cases e : (-1 - s).toNat = j
    · rw [if_pos e, if_pos e.symm]
    · rw [if_neg e, if_neg (fun e2 => e e2.symm), nthT_eq (by rw [h.1]; exact hj)]
  rw [hset]
  by_cases e : j = (-1 - s).toNat
  · have e2 : -1 - (j : Int) = s := by omega
    rw [if_pos e, e2]
    refine ⟨fun ⟨q, hq, hqs⟩ => absurd hqs ((ht q).1 hq).2, fun _ => by rw [hl]; rfl⟩
  · have e2 : -1 - (j : Int) ≠ s := by omega
    rw [if_neg e]
    refine ⟨fun ⟨q, hq, hqs⟩ => (h.2 j hj).1 ⟨q, ((ht q).1 hq).1, hqs⟩, fun hn => (h.2 j hj).2 fun q hq hqs => ?_⟩
    refine hn q ((ht q).2 ⟨hq, fun e3 => ?_⟩) hqs
    rw [hqs] at e3
    cases e3
    exact e2 rfl

/-- What was bound, of right terms. -/
theorem bound_of {p t : List Int} (hp : chk p = 0) (ht : chk t = 0) {bl : Bl} (h : fitM (tmOf p) (tmOf t) [] = some bl) {s : Int} {y : List Int} (hl : lk bl s = some y) : -8 ≤ s ∧ s < 0 ∧ y ≠ [] ∧ y.length ≤ 30 ∧ chk y = 0 := by
  obtain ⟨h1, h2⟩ := tm_chk hp
  obtain ⟨h3, h4⟩ := tm_chk ht
  obtain ⟨-, -, -, h5⟩ := fitM_sound _ _ _ _ h1 h3 h
  rcases h5 s y hl with h6 | ⟨h6, h7, k, hk, rfl⟩
  · cases h6
  · have e := (tm_at h3 hk).2.2.1
    rw [h4] at e
    rw [← e]
    rw [← size_flat, h4] at hk
    have hc := chk_paT ht hk
    rw [h2] at h6
    exact ⟨(signs_of_chk hp s h6).1, h7, ne_of_chk hc, len_of_chk hc, hc⟩

end Go.Proofs.Ytepddehodmljeaa
