/- Walks: rules.Falls. -/
import Derived.Test.YtepddehodmljeaaO6
import Derived.Test.YtepddehodmljeaaPq
import Derived.Test.YtepddehodmljeaaN3
namespace Go.Proofs.Ytepddehodmljeaa
open Go.RowKit Go.Maps

/-- Does one rule not fall? -/
def upR (r : List Int) (p : List Int × List Int) : Bool := !(gt (rkF r) (tmOf p.1) (tmOf p.2))

theorem fall1_calls (r : List Int) (hrl : r.length = 6) (p : List Int × List Int) (h1 : chk p.1 = 0) (h2 : chk p.2 = 0) (u v rv : Value) (B : Nat) (w : World) (hu : IsInts Any w u p.1) (hv : IsInts Any w v p.2) (hB : w.cell? ⟨B, 0, none⟩ = some rv) (hr : IsInts Any w rv r) :
    Calls Try.prog 139 #[.agg #[u, v], .pointer (some ⟨B, 0, none⟩)] w fun e w' => e = .returned (.bool (upR r p)) ∧ Below w.heap.size w w' := by
  have hb := below_alloc w (.cells #[u, v] 102)
  have hC := Lib.hid (Over_order r p.1 p.2 hrl h1 h2 rv u v _ (hr.below hb) (hu.below hb) (hv.below hb))
  have hBl : B < w.heap.size := World.block_lt_of_cell? _ _ hB
  have hc := (hb.cell (p := ⟨B, 0, none⟩) hBl).trans hB
  have hb' := Lib.hid hb
  obtain ⟨a1, c1, rfl⟩ := hu.isSlice
  obtain ⟨a2, c2, rfl⟩ := hv.isSlice
  obtain ⟨a3, c3, rfl⟩ := hr.isSlice
  clear hu hv hr hrl h1 h2 hb
  go_enter Try.func139, Try.ntmps139
  go_wp2_with fail
  refine hC.out.mono ?_
  rintro e w' ⟨rfl, hB2⟩
  go_wp2_with fail
  go_ret
  exact ⟨rfl, ext_trans hb'.out hB2⟩

theorem IndexR_rules (r : List Int) (hrl : r.length = 6) (l : Rus) (hl : Rul l) (v rv : Value) (B : Nat) (w : World) (hv : IsRules Any w v l) (hB : w.cell? ⟨B, 0, none⟩ = some rv) (hr : IsInts Any w rv r) :
    Calls Try.prog 181 #[v, .func (.func 139) #[] #[.pointer (some ⟨B, 0, none⟩)]] w fun e w' => (∃ i : Int, e = .returned (.int .i64 i) ∧ decide (0 ≤ i) = l.any (upR r)) ∧ Below w.heap.size w w' := by
  have he' : ∀ args w, (callFunc 139 args).run Try.prog w = .ok (.enter 139 args) w := enters_fn Try.func139 (by kernel_rfl) rfl
  obtain ⟨hlen, ⟨rfl, a, c, rfl⟩ | ⟨b, o, c, rfl, hlt, -, hc⟩⟩ := hv.cells
  · clear hv hB hr he'
    go_enter Try.func181, Try.ntmps181
    go_wp2_with fail
    refine wp_loop_rounds 1 ?_
    rw [rounds_succ]
    go_wp2_with fail
    go_ret
    exact ⟨⟨_, rfl, rfl⟩, .refl _ _⟩
  · have hC := Lib.hid hc
    have HR := Lib.hid hr
    have HB := Lib.hid hB
    have hBl : B < w.heap.size := World.block_lt_of_cell? _ _ hB
    have hl8 := hl.1
    have HL := Lib.hid hl
    clear hc hv hr hB hl
    go_enter Try.func181, Try.ntmps181
    go_wp2_with fail
    go_loopw [8] (fun i wr => ∃ k : Nat, k ≤ l.length ∧ i = .int .i64 k ∧ Hid (Below w.heap.size w wr ∧ ∀ j, j < k → upR r (nthR l j) = false)) (fun i _ => l.length - (intOf i).toNat)
    case atStart => exact ⟨0, Nat.zero_le _, rfl, .refl _ _, fun _ h => by omega⟩
    case round =>
      obtain ⟨k, hk, rfl, hR⟩ := hrel
      by_cases hlt' : k < l.length
      · obtain ⟨u, x, hu, hx, hiu, hix⟩ := hC.out k hlt'
        obtain ⟨a1, c1, e1⟩ := hiu.isSlice
        obtain ⟨a2, c2, e2⟩ := hix.isSlice
        subst e1 e2
        have hcu := (hR.out.1.cell (p := ⟨b, o + k * 2, none⟩) hlt).trans hu
        have hcx := (hR.out.1.cell (p := ⟨b, o + k * 2 + 1, none⟩) hlt).trans hx
        obtain ⟨g1, g2⟩ := HL.out.chk hlt'
        have hF := Lib.hid (fall1_calls r hrl (nthR l k) g1 g2 _ _ rv B wr (hiu.below hR.out.1) (hix.below hR.out.1) ((hR.out.1.cell (p := ⟨B, 0, none⟩) hBl).trans HB.out) (HR.out.below hR.out.1))
        have hkk : (k : Int) < l.length := by omega
        have hR2 := Lib.hid hR.out.2
        have hmem := Lib.hid (nthR_mem hlt')
        clear hu hx hiu hix g1 g2
        cases hup : upR r (nthR l k)
        · have hup' := Lib.hid hup
          rw [hup] at hF
          clear hup
          go_wp2_with fail
          refine hF.out.mono ?_
          rintro e w' ⟨rfl, hB2⟩
          have hBn := Lib.hid (ext_trans hR.out.1 hB2)
          clear hB2
          go_wp2_with fail
          go_roundw
          case rel =>
            refine ⟨k + 1, by omega, by go_num, hBn.out, fun j hj => ?_⟩
            by_cases e : j = k
            · rw [e]; exact hup'.out
            · exact hR2.out j (by omega)
          case measure => simp [intOf]; omega
        · have hr : Hid (l.any (upR r) = true) := List.any_eq_true.2 ⟨_, hmem.out, hup⟩
          rw [hup] at hF
          clear hup
          go_wp2_with fail
          refine hF.out.mono ?_
          rintro e w' ⟨rfl, hB2⟩
          have hBn := Lib.hid (ext_trans hR.out.1 hB2)
          clear hB2
          go_wp2_with fail
          go_ret
          exact ⟨⟨_, rfl, by rw [hr.out]; simp⟩, hBn.out⟩
      · obtain rfl : k = l.length := by omega
        have hr : Hid (l.any (upR r) = false) := by
          rw [Hid, List.any_eq_false]
          intro x hx
          obtain ⟨j, hj, rfl⟩ := List.getElem_of_mem hx
          have := hR.out.2 j hj
          rw [nthR_eq hj] at this
          rw [this]; decide
        go_wp2_with fail
        go_ret
        exact ⟨⟨_, rfl, by rw [hr.out]; rfl⟩, hR.out.1⟩

theorem ContainsR_rules (r : List Int) (hrl : r.length = 6) (l : Rus) (hl : Rul l) (v rv : Value) (B : Nat) (w : World) (hv : IsRules Any w v l) (hB : w.cell? ⟨B, 0, none⟩ = some rv) (hr : IsInts Any w rv r) :
    Calls Try.prog 138 #[v, .func (.func 139) #[] #[.pointer (some ⟨B, 0, none⟩)]] w fun e w' => e = .returned (.bool (l.any (upR r))) ∧ Below w.heap.size w w' := by
  have h := Lib.hid (IndexR_rules r hrl l hl v rv B w hv hB hr)
  clear hv hB hr hrl hl
  go_enter Try.func138, Try.ntmps138
  go_wp2_with fail
  refine h.out.mono ?_
  rintro e w' ⟨⟨i, rfl, hi⟩, hB⟩
  have hI := Lib.hid hi
  clear hi h
  go_wp2_with fail
  go_ret
  exact ⟨ret_bool hI.out, hB⟩

theorem fallsL_any (r : List Int) (l : Rus) : fallsL r l = !(l.any (upR r)) := by
  unfold fallsL upR
  exact List.all_eq_not_any_not

theorem Falls_calls (r : List Int) (l : Rus) (rv v : Value) (w : World) (hr : IsInts Any w rv r) (hv : IsRules Any w v l) :
    Calls Try.prog 73 #[rv, v] w fun e w' => e = .returned (.tuple #[.bool (fallsB r l), .int .i64 (fallsE r l)]) ∧ Below w.heap.size w w' := by
  have hb := below_alloc w (.cells #[rv] 23)
  have hBB := Lib.hid hb
  have h1 := Lib.hid (RankCheck_calls r rv _ (hr.below hb))
  have h2 := Lib.hid (RCheck_calls l v _ (hv.below RuleR.ok hb))
  by_cases h : rankE r = 0
  · by_cases hc : rulesE l = 0
    · have h3 : Hid (∀ W, Below (w.alloc (.cells #[rv] 23)).heap.size (w.alloc (.cells #[rv] 23)) W → Calls Try.prog 138 #[v, .func (.func 139) #[] #[.pointer (some ⟨w.heap.size, 0, none⟩)]] W fun e w' => e = .returned (.bool (l.any (upR r))) ∧ Below W.heap.size W w') := fun W hW =>
        ContainsR_rules r (rankE_zero h).1 l (rulesE_zero.1 hc) v rv w.heap.size W (hv.below RuleR.ok (ext_trans hb hW)) ((hW.cell (p := ⟨w.heap.size, 0, none⟩) (by simp)).trans (by simp [go_sem])) (hr.below (ext_trans hb hW))
      have he : fallsE r l = 0 := by rw [fallsE, if_pos h, hc]
      have hE : Hid (fallsB r l = !(l.any (upR r)) ∧ fallsE r l = 0) := ⟨by rw [fallsB, he, fallsL_any]; rfl, he⟩
      have hh := Lib.hid (And.intro h hc)
      obtain ⟨a1, c1, rfl⟩ := hr.isSlice
      obtain ⟨a2, c2, rfl⟩ := hv.isSlice
      clear hr hv h hc he hb
      go_enter Try.func73, Try.ntmps73
      go_wp2_with fail
      refine h1.out.mono ?_
      rintro e w' ⟨rfl, rfl⟩
      rw [hh.out.1]
      go_wp2_with fail
      refine h2.out.mono ?_
      rintro e w2 ⟨rfl, hB2⟩
      rw [hh.out.2]
      have hC := Lib.hid (h3.out w2 hB2)
      have HB2 := Lib.hid (ext_trans hBB.out hB2)
      clear hB2 h1 h2 h3
      go_wp2_with fail
      refine hC.out.mono ?_
      rintro e w3 ⟨rfl, hB3⟩
      go_wp2_with fail
      go_ret2
      rw [hE.out.1, hE.out.2]
      exact ⟨rfl, ext_trans HB2.out hB3⟩
    · have he : fallsE r l = rulesE l := by rw [fallsE, if_pos h]
      have hE : Hid (fallsB r l = false ∧ fallsE r l = rulesE l) := ⟨by rw [fallsB, he, decide_eq_false hc]; rfl, he⟩
      have hh := Lib.hid h
      have h' : (rulesE l != 0) = true := by simpa using hc
      obtain ⟨a1, c1, rfl⟩ := hr.isSlice
      obtain ⟨a2, c2, rfl⟩ := hv.isSlice
      clear hr hv h hc he hb
      go_enter Try.func73, Try.ntmps73
      go_wp2_with fail
      refine h1.out.mono ?_
      rintro e w' ⟨rfl, rfl⟩
      rw [hh.out]
      go_wp2_with fail
      refine h2.out.mono ?_
      rintro e w2 ⟨rfl, hB2⟩
      have HB2 := Lib.hid (ext_trans hBB.out hB2)
      clear hB2 h1 h2
      go_wp2_with fail
      go_ret2
      rw [hE.out.1, hE.out.2]
      exact ⟨rfl, HB2.out⟩
  · have he : fallsE r l = rankE r := by rw [fallsE, if_neg h]
    have hE : Hid (fallsB r l = false ∧ fallsE r l = rankE r) := ⟨by rw [fallsB, he, decide_eq_false h]; rfl, he⟩
    have h' : (rankE r != 0) = true := by simpa using h
    obtain ⟨a1, c1, rfl⟩ := hr.isSlice
    obtain ⟨a2, c2, rfl⟩ := hv.isSlice
    clear hr hv h he h2 hb
    go_enter Try.func73, Try.ntmps73
    go_wp2_with fail
    refine h1.out.mono ?_
    rintro e w' ⟨rfl, rfl⟩
    clear h1
    go_wp2_with fail
    go_ret2
    rw [hE.out.1, hE.out.2]
    exact ⟨rfl, hBB.out⟩

end Go.Proofs.Ytepddehodmljeaa
