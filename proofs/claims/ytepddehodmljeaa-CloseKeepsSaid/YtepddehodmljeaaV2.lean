/- Walks: valued, deepest. -/
import Derived.Test.YtepddehodmljeaaV1
namespace Go.Proofs.Ytepddehodmljeaa
open Go.RowKit Go.Maps

theorem drop_cons {t l : List Int} {k : Nat} {s : Int} (h : t.drop k = s :: l) : k < t.length ∧ nth t k = s ∧ t.drop (k + 1) = l := by
  have hk : k < t.length := by
    refine Nat.lt_of_not_le fun hn => ?_
    rw [List.drop_eq_nil_of_le hn] at h
    cases h
  rw [drop_nth hk] at h
  injection h with h1 h2
  exact ⟨hk, h1, h2⟩

theorem valued_calls (m : List Int) (ρ : Int → Nat) (mv rv : Array Value) (hm : IsMod m mv) (hr : IsVars ρ rv) (t : List Int) (hl : t.length ≤ 30) (hs : Signs t) : ∀ (x : Tm) (r : List Int) (k : Nat), x.ok → t.drop k = x.flat ++ r → ∀ (v : Value) (w : World), IsInts Any w v t →
    Calls Try.prog 134 #[.agg mv, v, .int .i64 k, .agg rv] w fun e w' => e = .returned (.tuple #[.int .i64 (val m ρ x : Nat), .int .i64 ((k + x.size : Nat) : Int)]) ∧ Below w.heap.size w w'
  | .leaf s, r, k, hx, hd, v, w, hv => by
    obtain ⟨hk, hn, -⟩ := drop_cons (show t.drop k = s :: r from hd)
    have hb := hs _ (nth_mem (t := t) (j := k) hk)
    rw [hn] at hb
    have ha : ar s = 0 := hx
    have h2 : s < 2 := by
      unfold ar at ha; split at ha; · assumption
      · split at ha <;> omega
    by_cases h0 : s < 0
    · have hv' : val m ρ (.leaf s) = ρ s := if_pos h0
      rw [hv']
      exact hn ▸ valued_var m ρ mv rv hm hr t v k hk w hv hl (by omega) (by omega)
    · have hv' : val m ρ (.leaf s) = (chs (nth m s.toNat) 3).toNat := if_neg h0
      rw [hv']
      rcases (by omega : s = 0 ∨ s = 1) with rfl | rfl
      · exact valued_con0 m ρ mv rv hm hr t v k hk w hv hl hn
      · exact valued_con1 m ρ mv rv hm hr t v k hk w hv hl hn
  | .un s a, r, k, hx, hd, v, w, hv => by
    obtain ⟨hk, hn, hd1⟩ := drop_cons (show t.drop k = s :: (a.flat ++ r) from hd)
    have ha : ar s = 1 := hx.1
    have h2 : s = 2 ∨ s = 3 := by
      unfold ar at ha; split at ha; · omega
      · split at ha <;> omega
    have ih := fun W (hb : Below w.heap.size w W) => valued_calls m ρ mv rv hm hr t hl hs a r (k + 1) hx.2 hd1 v W (hv.below hb)
    have h3 := val_lt (m := m) (ρ := ρ) hr.lt a
    have hsz : k + (Tm.un s a).size = k + 1 + a.size := by simp [Tm.size]; omega
    rw [hsz]
    rcases h2 with rfl | rfl
    · exact valued_un2 m ρ mv rv hm hr t v k hk w hv hl hn _ h3 _ ih
    · exact valued_un3 m ρ mv rv hm hr t v k hk w hv hl hn _ h3 _ ih
  | .bin s a b, r, k, hx, hd, v, w, hv => by
    obtain ⟨hk, hn, hd1⟩ := drop_cons (show t.drop k = s :: (a.flat ++ (b.flat ++ r)) by rw [hd]; simp [Tm.flat])
    have hd2 := drop_more hd1
    rw [size_flat] at hd2
    have hb := hs _ (nth_mem (t := t) (j := k) hk)
    rw [hn] at hb
    have ha : ar s = 2 := hx.1
    have h2 : s = 4 ∨ s = 5 := by
      unfold ar at ha; split at ha; · omega
      · split at ha <;> omega
    have ih := fun W (hb : Below w.heap.size w W) => valued_calls m ρ mv rv hm hr t hl hs a (b.flat ++ r) (k + 1) hx.2.1 hd1 v W (hv.below hb)
    have ih2 := fun W (hb : Below w.heap.size w W) => valued_calls m ρ mv rv hm hr t hl hs b r (k + 1 + a.size) hx.2.2 hd2 v W (hv.below hb)
    have h3 := val_lt (m := m) (ρ := ρ) hr.lt a
    have h4 := val_lt (m := m) (ρ := ρ) hr.lt b
    have hsz : k + (Tm.bin s a b).size = k + 1 + a.size + b.size := by simp [Tm.size]; omega
    rw [hsz]
    rcases h2 with rfl | rfl
    · exact valued_bin4 m ρ mv rv hm hr t v k hk w hv hl hn _ _ h3 h4 _ _ ih ih2
    · exact valued_bin5 m ρ mv rv hm hr t v k hk w hv hl hn _ _ h3 h4 _ _ ih ih2

set_option maxRecDepth 100000 in
theorem deepest_calls (t : List Int) (hl : t.length ≤ 30) (hs : Signs t) (v : Value) (w : World) (hv : IsInts Any w v t) :
    Calls Try.prog 133 #[v] w fun e w' => e = .returned (.int .i64 (deepN t)) ∧ w = w' := by
  obtain ⟨a, c, rfl⟩ := hv.isSlice
  have HV := Lib.hid hv
  have HS := Lib.hid hs
  have hll : (t.length : Int) ≤ 30 := by omega
  clear hv hs
  go_enter Try.func133, Try.ntmps133
  go_wp2_with fail
  go_loopw [3, 4] (fun f i wr => ∃ n : Nat, n ≤ t.length ∧ i = .int .i64 n ∧ f = .int .i64 (deepK t n) ∧ wr = w) (fun _ i _ => t.length - (intOf i).toNat)
  case atStart => exact ⟨0, Nat.zero_le _, rfl, rfl, rfl⟩
  case round =>
    obtain ⟨n, hn, rfl, rfl, rfl⟩ := hrel
    by_cases hlt : n < t.length
    · have hc := HV.out
      obtain ⟨z1, z2, z3, rfl, rfl⟩ : ∃ z1 z2 z3, a = some ⟨z1, z2, none⟩ ∧ c = z3 := by
        obtain ⟨b1, b2, b3, e⟩ := hc.cells (by intro h; rw [h] at hlt; simp at hlt)
        cases e
        exact ⟨_, _, _, rfl, rfl⟩
      have hcell := hc.cell hlt
      have hb := HS.out _ (nth_mem (t := t) (j := n) hlt)
      have hnn : (n : Int) < t.length := by omega
      have hd : Hid (deepK t (n + 1) = max (deepK t n) (-nth t n)) := rfl
      have hd8 := deepK_le HS.out (k := n) hn
      have hd0 := deepK_nonneg t n
      generalize nth t n = y at *
      generalize deepK t n = d at *
      clear hc
      obtain ⟨hy1, hy2⟩ := hb
      go_wp2_with fail
      go_roundw
      case rel => exact ⟨n + 1, by omega, by go_num, by rw [hd.out]; congr 1; split <;> omega, trivial⟩
      case measure => simp [intOf]; omega
    · obtain rfl : n = t.length := by omega
      go_wp2_with fail
      go_ret
      exact ⟨rfl, rfl⟩

end Go.Proofs.Ytepddehodmljeaa
