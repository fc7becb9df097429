/- How values in memory read as lists; what a call leaves as it was; append on a slice of the call's own. -/
import Derived.Test.YtepddehodmljeaaProg
import Derived.WalkKit
import Derived.Lib.Hide
import Derived.Test.YtepddehodmljeaaPb
namespace Go.Proofs.Ytepddehodmljeaa
open Go.RowKit

/-! ### Sets of blocks -/
abbrev Blk := Nat → Prop
def Any : Blk := fun _ => True
/-- Blocks from n on. -/
def Fr (n : Nat) : Blk := fun b => n ≤ b
/-- All blocks but that of a slice's own. -/
def Off (v : Value) : Blk := fun b => v.ownBlock ≠ some b
def Both' (S T : Blk) : Blk := fun b => S b ∧ T b

/-- What lies in S lies in S' too, and has not turned. -/
def Sok (S S' : Blk) (w w' : World) : Prop := w.heap.size ≤ w'.heap.size ∧ ∀ b, S b → b < w.heap.size → S' b ∧ w'.heap[b]? = w.heap[b]?

theorem Sok.of_below {S : Blk} {w w' : World} (h : Below w.heap.size w w') : Sok S S w w' := ⟨h.size, fun b hs hb => ⟨hs, h.block b hb⟩⟩
theorem Sok.any {S : Blk} {w w' : World} (h : Below w.heap.size w w') : Sok S Any w w' := ⟨h.size, fun b _ hb => ⟨trivial, h.block b hb⟩⟩
theorem Sok.weak {S S' : Blk} {w : World} (h : ∀ b, S b → S' b) : Sok S S' w w := ⟨Nat.le_refl _, fun b hs _ => ⟨h b hs, rfl⟩⟩
theorem Sok.toAny {S : Blk} {w : World} : Sok S Any w w := Sok.weak fun _ _ => trivial
theorem Sok.trans {S S' S'' : Blk} {a b c : World} (h : Sok S S' a b) (k : Sok S' S'' b c) : Sok S S'' a c :=
  ⟨Nat.le_trans h.1 k.1, fun i hs hi => ⟨(k.2 i (h.2 i hs hi).1 (Nat.lt_of_lt_of_le hi h.1)).1, ((k.2 i (h.2 i hs hi).1 (Nat.lt_of_lt_of_le hi h.1)).2).trans (h.2 i hs hi).2⟩⟩

/-- A slice of ints, in blocks of S. -/
def IsInts (S : Blk) (w : World) (v : Value) (t : List Int) : Prop :=
  t.length ≤ 9223372036854775807 ∧
  ((t = [] ∧ ∃ a c, v = .slice a 0 c ∧ (a = none → c = 0)) ∨
   (t ≠ [] ∧ ∃ b o c, v = .slice (some ⟨b, o, none⟩) t.length c ∧ t.length ≤ c ∧ S b ∧ b < w.heap.size ∧ ∀ j, j < t.length → w.cell? ⟨b, o + j, none⟩ = some (.int .i64 (nth t j))))

theorem IsInts.mono {S S' : Blk} {w w' : World} {v : Value} {t : List Int} (h : IsInts S w v t) (hk : Sok S S' w w') : IsInts S' w' v t := by
  obtain ⟨hl, h | ⟨hne, b, o, c, rfl, hcap, hs, hlt, hc⟩⟩ := h
  · exact ⟨hl, .inl h⟩
  · exact ⟨hl, .inr ⟨hne, b, o, c, rfl, hcap, (hk.2 b hs hlt).1, Nat.lt_of_lt_of_le hlt hk.1, fun j hj => (World.cell?_of_block (w := w) (hk.2 b hs hlt).2).trans (hc j hj)⟩⟩
theorem IsInts.below {S : Blk} {w w' : World} {v : Value} {t : List Int} (h : IsInts S w v t) (hb : Below w.heap.size w w') : IsInts S w' v t := h.mono (.of_below hb)
theorem IsInts.any {S : Blk} {w : World} {v : Value} {t : List Int} (h : IsInts S w v t) : IsInts Any w v t := h.mono .toAny
theorem IsInts.isSlice {S : Blk} {w : World} {v : Value} {t : List Int} (h : IsInts S w v t) : ∃ a c, v = .slice a t.length c := by
  obtain ⟨hl, ⟨rfl, a, c, rfl, _⟩ | ⟨hne, b, o, c, rfl, _⟩⟩ := h
  · exact ⟨a, c, rfl⟩
  · exact ⟨_, c, rfl⟩
theorem IsInts.nil (S : Blk) (w : World) : IsInts S w (.slice none 0 0) [] := ⟨by simp, .inl ⟨rfl, none, 0, rfl, fun _ => rfl⟩⟩
theorem IsInts.oneCell {S : Blk} {w : World} {v : Value} {t : List Int} (h : IsInts S w v t) : v.oneCell' = true := by
  obtain ⟨a, c, rfl⟩ := h.isSlice; rfl

/-! ### Rows of things that take sz cells each -/
abbrev Rep (α : Type) := Blk → World → List Value → α → Prop
/-- What reads as x goes on reading so while its blocks do not turn. -/
def Rep.Ok {α : Type} (R : Rep α) : Prop := ∀ S S' w w' us x, R S w us x → Sok S S' w w' → R S' w' us x

def Elems {α : Type} (sz : Nat) (R : Rep α) (S : Blk) (w : World) : List Value → List α → Prop
  | cs, [] => cs = []
  | cs, x :: xs => ∃ us cs', us.length = sz ∧ cs = us ++ cs' ∧ R S w us x ∧ Elems sz R S w cs' xs

variable {α : Type} {sz : Nat} {R : Rep α}

theorem Elems.length {S : Blk} {w : World} : ∀ {cs : List Value} {xs : List α}, Elems sz R S w cs xs → cs.length = xs.length * sz
  | cs, [], h => by rw [show cs = [] from h]; simp
  | cs, x :: xs, ⟨us, cs', hl, he, _, h⟩ => by rw [he, List.length_append, hl, h.length]; simp [Nat.add_mul, Nat.add_comm]
theorem Elems.mono (hR : R.Ok) {S S' : Blk} {w w' : World} (hk : Sok S S' w w') : ∀ {cs : List Value} {xs : List α}, Elems sz R S w cs xs → Elems sz R S' w' cs xs
  | _, [], h => h
  | _, _ :: _, ⟨us, cs', hl, he, hr, h⟩ => ⟨us, cs', hl, he, hR _ _ _ _ _ _ hr hk, h.mono hR hk⟩
theorem Elems.append {S : Blk} {w : World} : ∀ {cs ds : List Value} {xs ys : List α}, Elems sz R S w cs xs → Elems sz R S w ds ys → Elems sz R S w (cs ++ ds) (xs ++ ys)
  | cs, ds, [], ys, h, k => by rw [show cs = [] from h]; exact k
  | _, _, _ :: _, _, ⟨us, cs', hl, he, hr, h⟩, k => ⟨us, cs' ++ _, hl, by rw [he, List.append_assoc], hr, h.append k⟩
theorem Elems.one {S : Blk} {w : World} {us : List Value} {x : α} (hl : us.length = sz) (h : R S w us x) : Elems sz R S w us [x] := ⟨us, [], hl, by simp, h, rfl⟩
theorem Elems.get {S : Blk} {w : World} : ∀ {cs : List Value} {xs : List α}, Elems sz R S w cs xs → ∀ j (h : j < xs.length),
    ∃ us, us.length = sz ∧ (∀ i, i < sz → cs[j * sz + i]? = us[i]?) ∧ R S w us xs[j]
  | _, [], _, j, h => by simp at h
  | _, x :: xs, ⟨us, cs', hl, he, hr, h⟩, 0, _ => ⟨us, hl, fun i hi => by rw [he, Nat.zero_mul, Nat.zero_add, List.getElem?_append_left (by omega)], hr⟩
  | _, x :: xs, ⟨us, cs', hl, he, hr, h⟩, j + 1, hj => by
    obtain ⟨vs, h1, h2, h3⟩ := h.get j (by simpa using hj)
    refine ⟨vs, h1, fun i hi => ?_, h3⟩
    rw [he, List.getElem?_append_right (by rw [hl, Nat.add_mul]; omega), ← h2 i hi, hl]
    congr 1
    rw [Nat.add_mul]; omega
theorem Elems.drop {S : Blk} {w : World} : ∀ {cs : List Value} {xs : List α}, Elems sz R S w cs xs → ∀ k, Elems sz R S w (cs.drop (k * sz)) (xs.drop k)
  | cs, [], h, k => by rw [show cs = [] from h]; simp [Elems]
  | _, x :: xs, h, 0 => by simpa using h
  | _, x :: xs, ⟨us, cs', hl, he, _, h⟩, k + 1 => by
    have := h.drop k
    rw [he, List.drop_succ_cons, show (k + 1) * sz = us.length + k * sz by rw [hl, Nat.add_mul]; omega, List.drop_append, List.drop_eq_nil_of_le (by omega)]
    simpa using this
theorem Elems.take {S : Blk} {w : World} : ∀ {cs : List Value} {xs : List α}, Elems sz R S w cs xs → ∀ k, Elems sz R S w (cs.take (k * sz)) (xs.take k)
  | cs, [], h, k => by rw [show cs = [] from h]; simp [Elems]
  | _, x :: xs, h, 0 => by simp [Elems]
  | _, x :: xs, ⟨us, cs', hl, he, hr, h⟩, k + 1 => by
    refine ⟨us, cs'.take (k * sz), hl, ?_, hr, h.take k⟩
    rw [he, show (k + 1) * sz = us.length + k * sz by rw [hl, Nat.add_mul]; omega, List.take_append, List.take_of_length_le (by omega)]
    simp

/-- A slice whose elements read as xs. -/
def IsRow (sz : Nat) (R : Rep α) (S : Blk) (w : World) (v : Value) (xs : List α) : Prop :=
  xs.length ≤ 9223372036854775807 ∧
  ((xs = [] ∧ ∃ a c, v = .slice a 0 c ∧ (a = none → c = 0)) ∨
   (xs ≠ [] ∧ ∃ b o c, v = .slice (some ⟨b, o, none⟩) xs.length c ∧ xs.length ≤ c ∧ S b ∧ b < w.heap.size ∧ ∃ cs, Elems sz R S w cs xs ∧ ∀ j u, cs[j]? = some u → w.cell? ⟨b, o + j, none⟩ = some u))

theorem IsRow.mono (hR : R.Ok) {S S' : Blk} {w w' : World} {v : Value} {xs : List α} (h : IsRow sz R S w v xs) (hk : Sok S S' w w') : IsRow sz R S' w' v xs := by
  obtain ⟨hl, h | ⟨hne, b, o, c, rfl, hcap, hs, hlt, cs, he, hc⟩⟩ := h
  · exact ⟨hl, .inl h⟩
  · exact ⟨hl, .inr ⟨hne, b, o, c, rfl, hcap, (hk.2 b hs hlt).1, Nat.lt_of_lt_of_le hlt hk.1, cs, he.mono hR hk, fun j u hj => (World.cell?_of_block (w := w) (hk.2 b hs hlt).2).trans (hc j u hj)⟩⟩
theorem IsRow.below (hR : R.Ok) {S : Blk} {w w' : World} {v : Value} {xs : List α} (h : IsRow sz R S w v xs) (hb : Below w.heap.size w w') : IsRow sz R S w' v xs := h.mono hR (.of_below hb)
theorem IsRow.isSlice {S : Blk} {w : World} {v : Value} {xs : List α} (h : IsRow sz R S w v xs) : ∃ a c, v = .slice a xs.length c := by
  obtain ⟨hl, ⟨rfl, a, c, rfl, _⟩ | ⟨hne, b, o, c, rfl, _⟩⟩ := h
  · exact ⟨a, c, rfl⟩
  · exact ⟨_, c, rfl⟩
theorem IsRow.nil (S : Blk) (w : World) : IsRow sz R S w (.slice none 0 0) [] := ⟨by simp, .inl ⟨rfl, none, 0, rfl, fun _ => rfl⟩⟩

/-! ### A slice of the call's own, that is appended to -/
/-- Cells of one word each. -/
def Ones (cs : List Value) : Prop := ∀ u ∈ cs, u.oneCell' = true

def OwnRow (base : Nat) (e : TypeId) (sz : Nat) (R : Rep α) (S : Blk) (w : World) (v : Value) (xs : List α) : Prop :=
  ∃ cs, Elems sz R (Both' S (Off v)) w cs xs ∧ w.ownsRow base e sz v xs.length cs

theorem OwnRow.nil (base : Nat) (e : TypeId) (S : Blk) (w : World) : OwnRow base e sz R S w (.slice none 0 0) [] := ⟨[], rfl, World.ownsRow_nil _ _ _ _⟩

theorem OwnRow.block {base : Nat} {e : TypeId} {S : Blk} {w : World} {v : Value} {xs : List α} (h : OwnRow base e sz R S w v xs) : ∀ k, v.ownBlock = some k → base ≤ k ∧ k < w.heap.size := by
  obtain ⟨cs, _, ho⟩ := h; exact ho.lt

/-- What has not turned but beside it. -/
theorem OwnRow.mono (hR : R.Ok) {base : Nat} {e : TypeId} {S S' : Blk} {w w' : World} {v : Value} {xs : List α} (h : OwnRow base e sz R S w v xs) (hk : Sok S S' w w')
    (ho : ∀ k, v.ownBlock = some k → w'.heap[k]? = w.heap[k]?) : OwnRow base e sz R S' w' v xs := by
  obtain ⟨cs, he, h1, h2⟩ := h
  refine ⟨cs, he.mono hR ⟨hk.1, fun b hb hl => ⟨⟨(hk.2 b hb.1 hl).1, hb.2⟩, (hk.2 b hb.1 hl).2⟩⟩, h1, ?_⟩
  rcases h2 with h2 | ⟨g, cap, cur, hv, hb, hg, hr⟩
  · exact .inl h2
  · exact .inr ⟨g, cap, cur, hv, hb, by rw [ho g (by rw [hv]; rfl)]; exact hg, hr⟩

theorem OwnRow.below (hR : R.Ok) {base : Nat} {e : TypeId} {S : Blk} {w w' : World} {v : Value} {xs : List α} (h : OwnRow base e sz R S w v xs) (hb : Below w.heap.size w w') : OwnRow base e sz R S w' v xs :=
  h.mono hR (.of_below hb) fun k hk => hb.block k (h.block k hk).2

/-- Told as a row that is read. -/
theorem OwnRow.isRow (hR : R.Ok) {base : Nat} {e : TypeId} {S T : Blk} {w : World} {v : Value} {xs : List α} (h : OwnRow base e sz R S w v xs) (hS : ∀ b, S b → T b) (hT : ∀ b, base ≤ b → T b)
    (hl : xs.length ≤ 9223372036854775807) : IsRow sz R T w v xs := by
  obtain ⟨cs, he, h1, h2⟩ := h
  refine ⟨hl, ?_⟩
  rcases h2 with ⟨rfl, h0⟩ | ⟨g, cap, cur, rfl, hb, hg, hcap, hm, hsz, htake⟩
  · exact .inl ⟨List.eq_nil_of_length_eq_zero h0, none, 0, by rfl, fun _ => rfl⟩
  · by_cases hx : xs = []
    · subst hx; exact .inl ⟨rfl, _, cap, rfl, by simp⟩
    · refine .inr ⟨hx, g, 0, cap, rfl, hcap, hT g hb, lt_of_block hg, cs, he.mono hR (.weak fun b h => hS b h.1), fun j u hj => ?_⟩
      rw [Nat.zero_add]
      have : (⟨g, j, none⟩ : Addr) = (⟨g, 0, none⟩ : Addr).add j := by simp [Addr.add_lit]
      rw [this]
      exact World.ownsRow.cells (w := w) (base := base) (e := e) (size := sz) (v := .slice (some ⟨g, 0, none⟩) xs.length cap) (n := xs.length) ⟨h1, .inr ⟨g, cap, cur, rfl, hb, hg, hcap, hm, hsz, htake⟩⟩ rfl j u hj

section append
variable {P : Program} (w : World)

/-- 'append(v, x...)', v of the call's own, x whatever slice: what comes is v's own block grown, or a new one. -/
theorem run_app (base : Nat) (t ty e : TypeId) (i : TypeInfo) (z : Value) (size bytes : Nat) (ht : P.underlying t = some (.slice e)) (hi : P.info? e = some i) (hz : i.zero = some z)
    (hsize : i.size = size) (hby : i.bytes = bytes) (hzs : z.cells.size = size) (hsz : 0 < size)
    (v : Value) (n : Nat) (xs : List Value) (hown : w.ownsRow base e size v n xs)
    (ao : Option Addr) (m c : Nat) (news : List Value) (hnone : ao = none → m = 0 ∧ c = 0) (hl : news.length = m * size) (hnews : ∀ a, ao = some a → ∀ j u, news[j]? = some u → w.cell? (a.add j) = some u) (h1 : Ones news)
    (h63 : n + m ≤ maxLen) (hbytes : (n + m) * bytes ≤ 140737488355328) (hbase : base ≤ w.heap.size) :
    ∃ v' w', (Builtin.append_ #[t, t] ty #[v, .slice ao m c]).run P w = .ok v' w' ∧ w'.ownsRow base e size v' (n + m) (xs ++ news) ∧ w.grownBy w' v.ownBlock ∧
      (∀ b, v'.ownBlock = some b → v.ownBlock = some b ∨ w.heap.size ≤ b) := by
  cases ao with
  | none =>
    obtain ⟨rfl, rfl⟩ := hnone rfl
    have : news = [] := List.eq_nil_of_length_eq_zero (by simpa using hl)
    subst this
    refine ⟨v, w, run_append_owned_none w base t ty e i size ht hi v n xs hown, by simpa using hown, ⟨rfl, rfl, rfl, Nat.le_refl _, fun _ _ _ => rfl⟩, fun b hb => .inl hb⟩
  | some a =>
    have hnews := hnews a rfl
    have hown0 := hown
    rcases hown.2 with ⟨rfl, rfl⟩ | ⟨g, cap, cur, rfl, hbg, hg, hnc, hcm, hcs, htake⟩
    · have hx : xs = [] := List.eq_nil_of_length_eq_zero (by simpa using hown.1)
      subst hx
      obtain ⟨v', w', hr, h2, h3, h4⟩ := run_append_own (P := P) w w.heap.size t ty e i z size bytes ht hi hz hsize hby hzs hsz (.slice none 0 0) 0 [] (World.ownsRow_nil _ _ _ _) a m c news hl hnews h1 h63 hbytes (Nat.le_refl _)
      refine ⟨v', w', hr, ?_, h3, fun b hb => .inr (h2.lt b hb).1⟩
      refine ⟨h2.1, ?_⟩
      rcases h2.2 with h | ⟨g, cap, cur, hv, hb, hr⟩
      · exact .inl h
      · exact .inr ⟨g, cap, cur, hv, Nat.le_trans hbase hb, hr⟩
    · by_cases hroom : n + m ≤ cap
      · obtain ⟨w', hrun, r1, r2⟩ := run_append_fits (P := P) w base t ty e i size ht hi hsize g n cap xs hown0 a m c news hl hnews h1 hroom
        exact ⟨_, w', hrun, r1, r2, fun b hb => .inl hb⟩
      · have holds : ∀ j u, xs[j]? = some u → w.cell? ((⟨g, 0, none⟩ : Addr).add j) = some u := hown0.cells (g := g) rfl
        subst hsize; subst hby
        have hsmall : n + m ≤ 9223372036854775807 := by simp only [maxLen] at h63; omega
        have hr := run_append_grow (P := P) w t ty e i z ht hi hz ⟨g, 0, none⟩ n cap xs hown0.1 holds a m c news hl hnews (by omega) (by omega) (growslice_fits (by omega) hbytes)
        obtain ⟨v', w', hr', h2, h3, h4⟩ := run_append_own (P := P) w base t ty e i z i.size i.bytes ht hi hz rfl rfl hzs hsz _ n xs hown0 a m c news hl hnews h1 h63 hbytes hbase
        rw [hr] at hr'
        injection hr' with e1 e2
        exact ⟨v', w', by rw [hr, e1, e2], h2, h3, fun b hb => .inr (by rw [← e1] at hb; simp [Value.ownBlock] at hb; omega)⟩

theorem wpList_app {ops : Array Oper} {rest : List Oper} {o : Oper} {a : Act} {Q : Exit → Act → World → Prop} (hgd : o.guard = none) (s x : Operand) (t : TypeId)
    (ho : o.op = .call { callee := .builtin .append, args := #[s, x], argTypes := #[t, t] })
    (base : Nat) (e : TypeId) (i : TypeInfo) (z : Value) (size bytes : Nat) (ht : P.underlying t = some (.slice e)) (hi : P.info? e = some i) (hz : i.zero = some z)
    (hsize : i.size = size) (hby : i.bytes = bytes) (hzs : z.cells.size = size) (hsz : 0 < size)
    (v : Value) (n : Nat) (xs : List Value) (hs : a.eval s = v) (hown : w.ownsRow base e size v n xs)
    (ao : Option Addr) (m c : Nat) (news : List Value) (hx : a.eval x = .slice ao m c) (hnone : ao = none → m = 0 ∧ c = 0) (hl : news.length = m * size) (hnews : ∀ a, ao = some a → ∀ j u, news[j]? = some u → w.cell? (a.add j) = some u) (h1 : Ones news)
    (h63 : n + m ≤ maxLen) (hbytes : (n + m) * bytes ≤ 140737488355328) (hbase : base ≤ w.heap.size)
    (h : ∀ v' w', w'.ownsRow base e size v' (n + m) (xs ++ news) → w.grownBy w' v.ownBlock → (∀ b, v'.ownBlock = some b → v.ownBlock = some b ∨ w.heap.size ≤ b) → wpList P ops Q rest (a.put o.dst v') w') : wpList P ops Q (o :: rest) a w :=
  wpList_plain hgd fun K hK => by
    obtain ⟨v', w', hr, h2, h3, h4⟩ := run_app (P := P) w base t o.type e i z size bytes ht hi hz hsize hby hzs hsz v n xs hown ao m c news hnone hl hnews h1 h63 hbytes hbase
    unfold Oper.wp execOp
    simp only [ho, resolve, invoke, builtin, Sem.run_bind, Sem.run_pure, Result.andThen_ok, List.map_toArray, List.map_cons, List.map_nil, hs, hx, hr]
    exact hK _ _ (h v' w' h2 h3 h4)
end append

theorem below_of_grown {base : Nat} {w w' : World} {row : Option Nat} (hg : w.grownBy w' row) (hb : base ≤ w.heap.size) (hr : ∀ k, row = some k → base ≤ k) : Below base w w' :=
  (Below.refl base w).grown hg hb hr

/-- 'append(v, x...)' of ints. -/
theorem app_ints {P : Program} {w : World} {ops : Array Oper} {rest : List Oper} {o : Oper} {a : Act} {Q : Exit → Act → World → Prop} (s x : Operand) (t : TypeId) (hgd : o.guard = none)
    (ho : o.op = .call { callee := .builtin .append, args := #[s, x], argTypes := #[t, t] })
    (base : Nat) (i : TypeInfo) (ht : P.underlying t = some (.slice 3)) (hi : P.info? 3 = some i) (hz : i.zero = some (.int .i64 0)) (hsize : i.size = 1) (hby : i.bytes = 8)
    {xs ys : List Int} (hown : w.ownsRow base 3 1 (a.eval s) xs.length (xs.map (Value.int .i64))) {S : Blk} (hx : IsInts S w (a.eval x) ys)
    (hlen : xs.length + ys.length ≤ 1000000) (hbase : base ≤ w.heap.size)
    (h : ∀ v' w', w'.ownsRow base 3 1 v' (xs ++ ys).length ((xs ++ ys).map (Value.int .i64)) → Below base w w' → w.grownBy w' (a.eval s).ownBlock →
      (∀ b, v'.ownBlock = some b → (a.eval s).ownBlock = some b ∨ w.heap.size ≤ b) → wpList P ops Q rest (a.put o.dst v') w') : wpList P ops Q (o :: rest) a w := by
  obtain ⟨-, ⟨rfl, ao, c, hv, hnone⟩ | ⟨hne, b, off, c, hv, _, _, hlt, hc⟩⟩ := hx
  · refine wpList_app w hgd s x t ho base 3 i (.int .i64 0) 1 8 ht hi hz hsize hby rfl (by decide) _ _ _ rfl hown ao 0 c [] hv (fun h => ⟨rfl, hnone h⟩) rfl (fun _ _ _ _ hj => by simp at hj) (fun _ hu => by simp at hu) (by simp only [maxLen]; omega) (by omega) hbase fun v' w' h2 h3 h4 => ?_
    exact h v' w' (by simpa using h2) (below_of_grown h3 hbase fun k hk => (hown.lt k hk).1) h3 h4
  · refine wpList_app w hgd s x t ho base 3 i (.int .i64 0) 1 8 ht hi hz hsize hby rfl (by decide) _ _ _ rfl hown (some ⟨b, off, none⟩) ys.length c (ys.map (Value.int .i64)) hv (fun h => by cases h) (by simp) (fun ad hd j u hj => ?_) (fun u hu => ?_) (by simp only [maxLen]; omega) (by omega) hbase fun v' w' h2 h3 h4 => ?_
    · cases hd
      rw [List.getElem?_map] at hj
      cases hy : ys[j]? with
      | none => rw [hy] at hj; cases hj
      | some y =>
        rw [hy] at hj
        obtain ⟨hjl, rfl⟩ := List.getElem?_eq_some_iff.1 hy
        have := hc j hjl
        simp only [Option.map_some, Option.some.injEq] at hj
        rw [← hj, ← nth_eq hjl, ← this]
        simp [Addr.add_lit]
    · obtain ⟨y, _, rfl⟩ := List.mem_map.1 hu; rfl
    · refine h v' w' (by simpa using h2) (below_of_grown h3 hbase fun k hk => (hown.lt k hk).1) h3 h4

theorem ints_of_own {base : Nat} {w : World} {v : Value} {xs : List Int} (hown : w.ownsRow base 3 1 v xs.length (xs.map (Value.int .i64))) (hl : xs.length ≤ 9223372036854775807) : IsInts (Fr base) w v xs := by
  refine ⟨hl, ?_⟩
  have hown0 := hown
  rcases hown.2 with ⟨rfl, h0⟩ | ⟨g, cap, cur, rfl, hb, hg, hcap, _⟩
  · exact .inl ⟨List.eq_nil_of_length_eq_zero h0, none, 0, rfl, fun _ => rfl⟩
  · by_cases hx : xs = []
    · subst hx; exact .inl ⟨rfl, _, cap, rfl, by simp⟩
    · refine .inr ⟨hx, g, 0, cap, rfl, hcap, hb, lt_of_block hg, fun j hj => ?_⟩
      rw [Nat.zero_add, hown0.cellAt j (by omega), List.getElem?_map, List.getElem?_eq_getElem hj, nth_eq hj]; rfl

/-- 'append(v, x...)' of whatever elements. -/
theorem app_row (hR : R.Ok) {P : Program} {w : World} {ops : Array Oper} {rest : List Oper} {o : Oper} {a : Act} {Q : Exit → Act → World → Prop} (s x : Operand) (t : TypeId) (hgd : o.guard = none)
    (ho : o.op = .call { callee := .builtin .append, args := #[s, x], argTypes := #[t, t] })
    (base : Nat) (e : TypeId) (i : TypeInfo) (z : Value) (bytes : Nat) (ht : P.underlying t = some (.slice e)) (hi : P.info? e = some i) (hz : i.zero = some z) (hsize : i.size = sz) (hby : i.bytes = bytes) (hzs : z.cells.size = sz) (hsz : 0 < sz)
    {S : Blk} {xs : List α} (hown : OwnRow base e sz R S w (a.eval s) xs)
    {ao : Option Addr} {m c : Nat} {news : List Value} {ys : List α} (hx : a.eval x = .slice ao m c) (hm : m = ys.length) (hnone : ao = none → m = 0 ∧ c = 0) (hnews : ∀ a, ao = some a → ∀ j u, news[j]? = some u → w.cell? (a.add j) = some u) (h1 : Ones news)
    (hel : Elems sz R (Both' S (Off (a.eval s))) w news ys)
    (hlen : (xs.length + ys.length) * bytes ≤ 100000000) (hb0 : 0 < bytes) (hbase : base ≤ w.heap.size)
    (h : ∀ v' w', OwnRow base e sz R S w' v' (xs ++ ys) → Below base w w' → w.grownBy w' (a.eval s).ownBlock →
      (∀ b, v'.ownBlock = some b → (a.eval s).ownBlock = some b ∨ w.heap.size ≤ b) → wpList P ops Q rest (a.put o.dst v') w') : wpList P ops Q (o :: rest) a w := by
  subst hm
  obtain ⟨cs, he, hr⟩ := hown
  have hlen' : xs.length + ys.length ≤ 100000000 := Nat.le_trans (Nat.le_mul_of_pos_right _ hb0) hlen
  refine wpList_app w hgd s x t ho base e i z sz bytes ht hi hz hsize hby hzs hsz _ _ _ rfl hr ao ys.length c news hx hnone hel.length hnews h1 (by simp only [maxLen]; omega) (by omega) hbase fun v' w' h2 h3 h4 => ?_
  refine h v' w' ⟨cs ++ news, (he.append hel).mono hR ⟨h3.size, fun b hb hl => ⟨⟨hb.1, fun hv => ?_⟩, h3.block b hl (fun hk => hb.2 hk.symm)⟩⟩, by simpa using h2⟩ (below_of_grown h3 hbase fun k hk => (hr.lt k hk).1) h3 h4
  rcases h4 b hv with h5 | h5
  · exact hb.2 h5
  · omega

theorem bcell {W w1 : World} (hb : Below W.heap.size W w1) : (∀ b o, b < W.heap.size → w1.cell? ⟨b, o, none⟩ = W.cell? ⟨b, o, none⟩) ∧ (∀ b o, b < W.heap.size → w1.frozen? ⟨b, o, none⟩ = W.frozen? ⟨b, o, none⟩) :=
  ⟨fun b o h => hb.cell (p := ⟨b, o, none⟩) h, fun b o h => hb.frozen (p := ⟨b, o, none⟩) h⟩

theorem ret_int {k : IntKind} {a b : Int} (h : a = b) : Ending.returned (.int k a) = .returned (.int k b) := by rw [h]
theorem ret_bool {a b : Bool} (h : a = b) : Ending.returned (.bool a) = .returned (.bool b) := by rw [h]

/-- A new slice of ints, as a literal lays it. -/
theorem ints_lit (w : World) (base : Nat) (xs : List Int) (e : TypeId) (hb : base ≤ w.heap.size) (hl : xs.length ≤ 9223372036854775807) :
    IsInts (Fr base) (w.alloc (.cells (xs.map (Value.int .i64)).toArray e)) (.slice (some ⟨w.heap.size, 0, none⟩) xs.length xs.length) xs := by
  refine ⟨hl, ?_⟩
  by_cases hx : xs = []
  · subst hx; exact .inl ⟨rfl, _, 0, rfl, by simp⟩
  · refine .inr ⟨hx, w.heap.size, 0, _, rfl, Nat.le_refl _, hb, by simp, fun j hj => ?_⟩
    rw [World.cell?_alloc_at _ _ _ _ rfl]
    simp [nth_eq hj, hj]

theorem below_alloc (w : World) (o : Obj) : Below w.heap.size w (w.alloc o) := (Below.refl _ _).alloc (Nat.le_refl _) o

/-! ### Lists of terms -/
def TermR : Rep (List Int) := fun S w us t => ∃ u, us = [u] ∧ IsInts S w u t
theorem TermR.ok : Rep.Ok TermR := fun _ _ _ _ _ _ ⟨u, h, k⟩ hk => ⟨u, h, k.mono hk⟩
abbrev IsTerms (S : Blk) (w : World) (v : Value) (ts : List (List Int)) : Prop := IsRow 1 TermR S w v ts

/-- The cells of a list of terms. -/
theorem terms_cell {S : Blk} {w : World} {b o : Nat} {ts : List (List Int)} {cs : List Value} (he : Elems 1 TermR S w cs ts) (hc : ∀ j u, cs[j]? = some u → w.cell? ⟨b, o + j, none⟩ = some u) {j : Nat} (hj : j < ts.length) :
    ∃ u, w.cell? ⟨b, o + j, none⟩ = some u ∧ IsInts S w u (nthT ts j) := by
  obtain ⟨us, hl, hget, u, rfl, hu⟩ := he.get j hj
  have := hget 0 (by omega)
  simp at this
  exact ⟨u, hc j u this, by rw [nthT_eq hj]; exact hu⟩

/-- A function with a body is entered. -/
def Enters (g : Nat) : Prop := ∀ (args : Array Value) (w : World), (callFunc g args).run Try.prog w = .ok (.enter g args) w

theorem enters_fn {g : FuncId} {fn : Func} {c : Code} (hf : Try.prog.funcs[g]? = some fn) (hname : (fn.name == "runtime.NumGoroutine") = false) (hb : fn.body = some c) : Enters g := fun args w => by
  have h1 : fn.name ≠ "runtime.NumGoroutine" := by simpa using hname
  simp [callFunc, hf, h1, hb]

/-! ### Types of this program -/
theorem Try.inf3 : (Try.prog.info? 3).map (fun i => (i.zero, i.size, i.bytes)) = some (some (.int .i64 0), 1, 8) := by kernel_rfl
theorem Try.inf24 : (Try.prog.info? 24).map (fun i => (i.zero, i.size, i.bytes)) = some (some (.slice none 0 0), 1, 24) := by kernel_rfl

end Go.Proofs.Ytepddehodmljeaa
