/- Walks: PairsModel. -/
import Derived.Test.YtepddehodmljeaaYh
namespace Go
theorem wpStill_load_row_g {P : Program} {ops : Array Oper} {w : World} {Q : Act → Prop} {rest : List Oper} {o : Oper} {a : Act} (hgd : Region.wanted o (yielded ops a.tmps) = true) (ty : TypeId) (x : Operand) (ho : o.op = .load ty x)
    (g : Nat) (hx : a.eval x = .pointer (some ⟨g, 0, none⟩)) (t : TypeId) (cs : Array Value) (fr : Nat × Nat) (d : TypeDesc) (hg : w.heap[g]? = some (.cells cs t fr))
    (hu : P.underlying ty = some d) (hd : (match d with | .struct _ | .array _ _ => true | _ => false) = true) (hi : (P.info? ty).map (·.size) = some cs.size)
    (h : wpStill P ops w Q rest (a.put o.dst (.agg cs))) : wpStill P ops w Q (o :: rest) a := by
  refine wpStill_step fun K hK => ?_
  rw [if_pos hgd]
  unfold Oper.still execOp
  simp only [ho, hx, Instr.loadAt, Instr.sureAddr, Sem.run_bind, Sem.run_pure, Result.andThen_ok, run_loadVar_row w g t ty cs fr d hg hu hd hi]
  exact ⟨rfl, hK _ h⟩
end Go
namespace Go.Proofs.Ytepddehodmljeaa
open Go.RowKit Go.Maps

/-- 'append(v, x...)' of ints, where the region draws its order. -/
theorem step_app_ints {P : Program} {w : World} {ops : Array Oper} {o : Oper} {a : Act} {K : Act → World → Prop} {Q : Exit → Act → World → Prop} {E : Prop} (s x : Operand) (t : TypeId) (hgd : o.guard = none)
    (ho : o.op = .call { callee := .builtin .append, args := #[s, x], argTypes := #[t, t] })
    (base : Nat) (i : TypeInfo) (ht : P.underlying t = some (.slice 3)) (hi : P.info? 3 = some i) (hz : i.zero = some (.int .i64 0)) (hsize : i.size = 1) (hby : i.bytes = 8)
    {xs ys : List Int} {v u : Value} (hs : a.eval s = v) (hxe : a.eval x = u) (hown : w.ownsRow base 3 1 v xs.length (xs.map (Value.int .i64))) {S : Blk} (hx : IsInts S w u ys)
    (hlen : xs.length + ys.length ≤ 1000000) (hbase : base ≤ w.heap.size)
    (h : ∀ v' w', w'.ownsRow base 3 1 v' (xs ++ ys).length ((xs ++ ys).map (Value.int .i64)) → Below base w w' → w.grownBy w' v.ownBlock →
      (∀ b, v'.ownBlock = some b → v.ownBlock = some b ∨ w.heap.size ≤ b) → K (a.put o.dst v') w') : if Region.wanted o (yielded ops a.tmps) = true then Oper.wp P o a w K Q else E := by
  rw [if_pos (by simp [Region.wanted, hgd])]
  obtain ⟨-, ⟨rfl, ao, c, hv, hnone⟩ | ⟨hne, b, off, c, hv, _, _, hlt, hc⟩⟩ := hx
  · refine wp_app s x t ho base 3 i (.int .i64 0) 1 8 ht hi hz hsize hby rfl (by decide) v _ _ hs hown ao 0 c [] (hxe.trans hv) (fun h => ⟨rfl, hnone h⟩) rfl (fun _ _ _ _ hj => by simp at hj) (fun _ hu => by simp at hu) (by simp only [maxLen, List.length_nil] at *; omega) (by simp at hlen; omega) hbase fun v' w' h2 h3 h4 => ?_
    exact h v' w' (by simpa using h2) (below_of_grown h3 hbase fun k hk => (hown.lt k hk).1) h3 h4
  · refine wp_app s x t ho base 3 i (.int .i64 0) 1 8 ht hi hz hsize hby rfl (by decide) v _ _ hs hown (some ⟨b, off, none⟩) ys.length c (ys.map (Value.int .i64)) (hxe.trans hv) (fun h => by cases h) (by simp) (fun ad hd j u hj => ?_) (fun u hu => ?_) (by simp only [maxLen]; omega) (by omega) hbase fun v' w' h2 h3 h4 => ?_
    · cases hd
      rw [List.getElem?_map] at hj
      cases hy : ys[j]? with
      | none => rw [hy] at hj; cases hj
      | some y =>
        rw [hy] at hj
        obtain ⟨hjl, rfl⟩ := List.getElem?_eq_some_iff.1 hy
        have := hc j hjl
        simp only [Option.map_some, Option.some.injEq] at hj
        rw [← hj, ← nth_eq hjl, ← this]
        simp [Addr.add_lit]
    · obtain ⟨y, _, rfl⟩ := List.mem_map.1 hu; rfl
    · exact h v' w' (by simpa using h2) (below_of_grown h3 hbase fun k hk => (hown.lt k hk).1) h3 h4

theorem symN_take {t : List Int} {k : Nat} (hk : k < t.length) : symN (t.take (k + 1)) = symN (t.take k) + (if 0 ≤ nth t k then 1 else 0) := by
  rw [take_nth hk, symN, symN, List.countP_append]
  congr 1
  by_cases h : 0 ≤ nth t k
  · simp [h]
  · simp [h]
theorem symN_le (t : List Int) : symN t ≤ t.length := List.countP_le_length
theorem nxB_drop {t : List Int} {n : Nat} {m : Int} (hn : n < t.length) (h : nxB m (t.drop n) = true) : ¬ nth t n < m ∧ nxB (if nth t n = m then m - 1 else m) (t.drop (n + 1)) = true := by
  rw [drop_nth hn, nxB] at h
  split at h
  · cases h
  · exact ⟨by assumption, h⟩

theorem ints_at {S : Blk} {w : World} {v : Value} {t : List Int} (h : IsInts S w v t) {j : Nat} (hj : j < t.length) : ∃ b o c, v = .slice (some ⟨b, o, none⟩) t.length c ∧ w.cell? ⟨b, o + j, none⟩ = some (.int .i64 (nth t j)) := by
  obtain ⟨b, o, c, rfl⟩ := h.cells (by intro e; rw [e] at hj; simp at hj)
  exact ⟨b, o, c, rfl, h.cell hj⟩

/-- What PairsModel looks at. -/
def PmOk (m : List Int) (l : Rus) (ps : List Ru) : Prop := ∀ p ∈ ps, chk p.1 = 0 ∧ chk p.2 = 0 ∧ nxB (-1) (p.1 ++ p.2) = true ∧ (worB m l = true → holB m p.1 p.2 = true)

set_option maxRecDepth 100000 in
set_option maxHeartbeats 8000000 in
theorem PairsModel_calls (l : Rus) (i j : Int) (m : List Int) (v : Value) (mv : Array Value) (w : World) (hv : IsRules Any w v l) (hm : IsMod m mv) :
    Calls Try.prog 26 #[v, .int .i64 i, .int .i64 j, .agg mv] w fun e w' => e = .returned (.bool true) ∧ Below w.heap.size w w' := by
  obtain ⟨fb, hfb⟩ := exists_fb
  obtain ⟨i3, hi, hz, hsz, hby⟩ := info_parts Try.inf3
  obtain ⟨va, vc, rfl⟩ := hv.isSlice
  have hB00 := Lib.hid (below_alloc w (.cells mv 57))
  have hv0 := hv.below RuleR.ok hB00.out
  have hblk : Hid (∀ W, Below (w.alloc (.cells mv 57)).heap.size (w.alloc (.cells mv 57)) W → W.heap[w.heap.size]? = some (.cells mv 57 (0, 0))) := fun W hW => by
    rw [hW.block _ (by simp)]
    exact heap_alloc_new _ _
  have h57 : (Try.prog.info? 57).map (·.size) = some mv.size := by rw [hm.size]; kernel_rfl
  have hWo := Lib.hid fun hl v w hv => world_calls m mv hm l hl v w hv
  have hHo := Lib.hid fun a b ha hb u v w hu hv => holds_calls m mv hm a b ha hb u v w hu hv
  have hOf := Lib.hid (POf_calls hfb l i j _ (w.alloc (.cells mv 57)) hv0)
  clear hv hm
  by_cases he : pofE fb l i j = 0
  · have hre : rulesE l = 0 := by
      unfold pofE at he
      split at he
      · assumption
      · rename_i h; exact absurd he h
    have hl := rulesE_zero.1 hre
    have hin : 0 ≤ i ∧ i < l.length ∧ 0 ≤ j ∧ j < l.length := by
      unfold pofE at he
      rw [if_pos hre] at he
      split at he
      · assumption
      · cases he
    have het : twoE fb l i.toNat j.toNat = 0 := by
      unfold pofE at he
      rw [if_pos hre, if_pos hin] at he
      exact he
    have hpl : pofL fb l i j = twoL fb l i.toNat j.toNat := by rw [pofL, if_pos he]
    obtain ⟨h1, h2, h3, h4⟩ := hin
    obtain ⟨a, rfl⟩ : ∃ n : Nat, i = n := ⟨i.toNat, by omega⟩
    obtain ⟨b, rfl⟩ : ∃ n : Nat, j = n := ⟨j.toNat, by omega⟩
    simp only [Int.toNat_natCast] at het hpl
    have ha : a < l.length := by omega
    have hb : b < l.length := by omega
    obtain ⟨q1, q2, q3⟩ := pairs_model hfb hl ha hb het
    have hps : Hid (PmOk m l (twoL fb l a b)) := fun p hp => by
      obtain ⟨c1, c2, c3, c4⟩ := q3 p hp
      exact ⟨c1, c2, c3, fun hw => (holB_iff c1 c2).2 (c4 m ((worB_iff hl).1 hw))⟩
    have HL := Lib.hid hl
    have HE := Lib.hid he
    have HRE := Lib.hid hre
    have hRu := Lib.hid fun W (hb : Below (w.alloc (.cells mv 57)).heap.size (w.alloc (.cells mv 57)) W) => RulesError_calls l _ W (hv0.below RuleR.ok hb)
    have HV := Lib.hid hv0
    have hsy : symN (nthR l a).1 ≤ 30 := Nat.le_trans (symN_le _) (len_of_chk (hl.chk ha).1)
    have htl := len_of_chk (hl.chk ha).1
    have hab : ((a : Int) == b) = decide (a = b) := by
      by_cases e : a = b
      · subst e; simp
      · rw [decide_eq_false e]; simp; omega
    rw [hpl] at hOf
    clear het hpl hre he hl q3 hfb h1 h3 hv0
    obtain ⟨rb, ro, rc, e, hrl, -, hrc⟩ : ∃ b o c, Value.slice va l.length vc = .slice (some ⟨b, o, none⟩) l.length c ∧ b < (w.alloc (.cells mv 57)).heap.size ∧ True ∧ ∀ j, j < l.length → ∃ u x, (w.alloc (.cells mv 57)).cell? ⟨b, o + j * 2, none⟩ = some u ∧ (w.alloc (.cells mv 57)).cell? ⟨b, o + j * 2 + 1, none⟩ = some x ∧ IsInts Any (w.alloc (.cells mv 57)) u (nthR l j).1 ∧ IsInts Any (w.alloc (.cells mv 57)) x (nthR l j).2 := by
      have HVt : IsRules Any (w.alloc (.cells mv 57)) (.slice va l.length vc) l := HV.out
      obtain ⟨-, ⟨e, -⟩ | ⟨b, o, c, e, h1, -, h2⟩⟩ := HVt.cells
      · rw [e] at ha; simp at ha
      · exact ⟨b, o, c, e, h1, trivial, h2⟩
    cases e
    obtain ⟨u, -, hcu, -, hiu, -⟩ := hrc a ha
    obtain ⟨tb, to', tc, eu⟩ := hiu.cells (ne_of_chk (HL.out.chk ha).1)
    subst eu
    have hT0 := Lib.hid hiu
    have hCu : Hid (∀ W, Below (w.alloc (.cells mv 57)).heap.size (w.alloc (.cells mv 57)) W → W.cell? ⟨rb, ro + a * 2, none⟩ = some (.slice (some ⟨tb, to', none⟩) (nthR l a).1.length tc)) := fun W hb => (hb.cell (p := ⟨rb, ro + a * 2, none⟩) hrl).trans hcu
    have haa : (a : Int) < l.length := by omega
    have hna : ¬ l.length ≤ a := by omega
    have ha8 : (a : Int) ≤ 8 := by have := HL.out.1; omega
    clear hrc hcu hiu
    generalize ht : (nthR l a).1 = t at *
    have htl' : (t.length : Int) ≤ 30 := by omega
    clear ht
    go_enter Try.func26, Try.ntmps26
    go_wp2_with fail
    refine hOf.out.mono ?_
    rintro e w1 ⟨y, rfl, hy, hB1⟩
    obtain ⟨ya, yc, rfl⟩ := hy.isSlice
    have HY := Lib.hid (IsRow.any RuleR.ok hy)
    have HB1 := Lib.hid hB1
    rw [HE.out]
    clear hy hB1
    generalize hpse : twoL fb l a b = ps at *
    clear hpse
    have hps30 : (ps.length : Int) ≤ 30 := by omega
    go_wp2_with fail
    refine (hRu.out w1 HB1.out).mono ?_
    rintro e w2 ⟨rfl, hB2⟩
    have HB2 := Lib.hid (ext_trans HB1.out hB2)
    have HY2 := Lib.hid (HY.out.below RuleR.ok hB2)
    rw [HRE.out]
    clear hB2 HY HB1
    go_wp2_with fail
    go_loopw [11, 12] (fun s11 s12 wr => ∃ k : Nat, k ≤ t.length ∧ s12 = .int .i64 k ∧ s11 = .int .i64 (symN (t.take k)) ∧ Hid (Below w2.heap.size w2 wr)) (fun _ s12 _ => t.length - (intOf s12).toNat)
    case atStart => exact ⟨0, Nat.zero_le _, rfl, rfl, .refl _ _⟩
    case round =>
      rename World => wr
      obtain ⟨k, hk, rfl, rfl, hB⟩ := hrel
      have hBr := Lib.hid (ext_trans HB2.out hB.out)
      have c1 := hCu.out wr hBr.out
      have hsk : symN (t.take k) ≤ 30 := Nat.le_trans (symN_le _) (by rw [List.length_take]; omega)
      by_cases hlk : k < t.length
      · have hkk : (k : Int) < t.length := by omega
        have hck := (hT0.out.below hBr.out).cell hlk
        have hs := symN_take hlk
        by_cases h0 : 0 ≤ nth t k
        · rw [if_pos h0] at hs
          have Hs := Lib.hid hs
          clear hs
          generalize nth t k = z at *
          go_wp2_with fail
          go_roundw
          case rel => exact ⟨k + 1, by omega, by go_num, by rw [Hs.out]; rfl, hB.out⟩
          case measure => simp [intOf]; omega
        · rw [if_neg h0] at hs
          have Hs := Lib.hid hs
          clear hs
          generalize nth t k = z at *
          go_wp2_with fail
          go_roundw
          case rel => exact ⟨k + 1, by omega, by go_num, by rw [Hs.out]; rfl, hB.out⟩
          case measure => simp [intOf]; omega
      · obtain rfl : k = t.length := by omega
        rw [List.take_length] at hsk
        have hkk : ¬ (t.length : Int) < t.length := by omega
        have hqa : ¬ ((symN t : Nat) : Int) < ps.length := by omega
        have hqb : decide ((ps.length : Int) > ((symN t : Nat) : Int)) = false := decide_eq_false (by omega)
        rw [List.take_length]
        by_cases hab' : a = b
        · have hq2 := q2 hab'
          have habt : ((a : Int) == b) = true := by rw [hab, decide_eq_true hab']
          have hqc : decide ((ps.length : Int) ≥ ((symN t : Nat) : Int)) = false := decide_eq_false (by omega)
          clear hab hab' q2
          have hg := hblk.out wr hBr.out
          have hWC := Lib.hid (hWo.out HL.out _ wr (HV.out.below RuleR.ok hBr.out))
          obtain ⟨wb, hwb⟩ : ∃ wb, wb = worB m l := ⟨_, rfl⟩
          rw [← hwb] at hWC
          have hps2 : Hid (∀ p ∈ ps, chk p.1 = 0 ∧ chk p.2 = 0 ∧ nxB (-1) (p.1 ++ p.2) = true ∧ (wb = true → holB m p.1 p.2 = true)) := by rw [hwb]; exact hps.out
          have HYr := Lib.hid (HY2.out.below RuleR.ok hB.out)
          clear hwb hps hOf hRu
          go_wp2_with (refine wpList_load_row_g (by rfl) 57 _ rfl w.heap.size rfl 57 mv (0, 0) _ hg Try.underlying57 rfl h57 ?_)
          refine hWC.out.mono ?_
          rintro e w3 ⟨rfl, hB3⟩
          have HB3 := Lib.hid (ext_trans hBr.out hB3)
          have HY3 := Lib.hid (HYr.out.below RuleR.ok hB3)
          clear hB3 hg c1 HYr
          go_wp2_with fail
          go_loopw [14] (fun s14 wl => ∃ k : Nat, k ≤ ps.length ∧ s14 = .int .i64 k ∧ Hid (Below w3.heap.size w3 wl)) (fun s14 _ => ps.length - (intOf s14).toNat)
          case atStart => exact ⟨0, Nat.zero_le _, rfl, .refl _ _⟩
          case round =>
            rename World => wl
            obtain ⟨k, hk, rfl, hBl⟩ := hrel
            by_cases hlk : k < ps.length
            · have hkk : (k : Int) < ps.length := by omega
              have HYl := Lib.hid (HY3.out.below RuleR.ok hBl.out)
              obtain ⟨pb, po, pc, u, x, e, hcu, hcx, hu, hx⟩ := prs_at HYl.out hlk
              cases e
              obtain ⟨k1, k2, k3, k4⟩ := hps2.out _ (nthR_mem hlk)
              generalize nthR ps k = p at *
              obtain ⟨u1, u2, rfl⟩ := hu.isSlice
              obtain ⟨x1, x2, rfl⟩ := hx.isSlice
              have HU := Lib.hid hu
              have HX := Lib.hid hx
              have K1 := Lib.hid k1
              have K2 := Lib.hid k2
              have K3 := Lib.hid k3
              have K4 := Lib.hid k4
              have hp1 := len_of_chk k1
              have hp2 := len_of_chk k2
              have hsg : Hid (∀ z ∈ p.1 ++ p.2, -8 ≤ z ∧ z < 6) := fun z hz => by
                rcases List.mem_append.1 hz with h | h
                · exact signs_of_chk K1.out z h
                · exact signs_of_chk K2.out z h
              have hpb : pb < wl.heap.size := World.block_lt_of_cell? _ _ hcu
              have hS2 : Hid (∀ W, Below wl.heap.size wl W → W.cell? ⟨pb, po + k * 2, none⟩ = some (.slice u1 p.1.length u2) ∧ W.cell? ⟨pb, po + k * 2 + 1, none⟩ = some (.slice x1 p.2.length x2)) := fun W hb =>
                ⟨(hb.cell (p := ⟨pb, po + k * 2, none⟩) hpb).trans hcu, (hb.cell (p := ⟨pb, po + k * 2 + 1, none⟩) hpb).trans hcx⟩
              have hO0 : Hid ((wl.alloc (.cells #[] 3)).drew.ownsRow wl.heap.size 3 1 (.slice (some ⟨wl.heap.size, 0, none⟩) 0 0) ([] : List Int).length (([] : List Int).map (Value.int .i64))) :=
                ownsRow_keep (World.ownsRow_made wl #[] 0 (Nat.le_refl _) (by simp [maxLen]) (by simp)) fun _ _ => rfl
              have hbd := Lib.hid (ext_trans (below_alloc wl (.cells #[] 3)) (below_drew _ _))
              have hU0 := Lib.hid (hu.below hbd.out)
              have hTE1 := Lib.hid (TermError_calls p.1 _ wl hu)
              have hTE2 := Lib.hid (TermError_calls p.2 _ wl hx)
              clear hu hx k1 k2 k3 k4
              go_wp2_with fail
              refine hTE1.out.mono ?_
              rintro e w' ⟨rfl, rfl⟩
              rw [K1.out]
              go_wp2_with fail
              refine hTE2.out.mono ?_
              rintro e w' ⟨rfl, rfl⟩
              rw [K2.out]
              go_wp2_with fail
              go_region_held3 (fun W => W.cell? ⟨pb, po + k * 2, none⟩ = some (.slice u1 p.1.length u2) ∧ W.cell? ⟨pb, po + k * 2 + 1, none⟩ = some (.slice x1 p.2.length x2))
                (first | exact hS2.out _ (below_drew _ wl) | exact hS2.out _ hbd.out | exact hS2.out _ HB4.out | exact hS2.out _ HB5.out)
                (first
                  | (refine step_app_ints _ _ 24 (by rfl) (by rfl) wl.heap.size i3 Try.underlying24 hi hz hsz hby (by rfl) (by rfl) hO0.out hU0.out (by simp; omega) (by simp) ?_; intro v4 w4 hown4 hb4 _ _; rw [List.nil_append] at hown4; have HB4 := Lib.hid (hbd.out.trans hb4); have HX4 := Lib.hid (HX.out.below HB4.out); have HO4 := Lib.hid hown4; clear hown4 hb4)
                  | (refine step_app_ints _ _ 24 (by rfl) (by rfl) wl.heap.size i3 Try.underlying24 hi hz hsz hby (by rfl) (by rfl) HO4.out HX4.out (by omega) (Nat.le_trans (Nat.le_refl _) HB4.out.size) ?_; intro v5 w5 hown5 hb5 _ _; have HB5 := Lib.hid (HB4.out.trans hb5); have HO5 := Lib.hid hown5; clear hown5 hb5))
              have HI5 := Lib.hid (ints_of_own HO5.out (by rw [List.length_append]; omega)).any
              have hL60 : (p.1 ++ p.2).length ≤ 60 := by rw [List.length_append]; omega
              clear HO4 HX4 HO5 hO0 hU0
              generalize p.1 ++ p.2 = bt at *
              have hL60' : (bt.length : Int) ≤ 60 := by omega
              obtain ⟨ba, bc, rfl⟩ := HI5.out.isSlice
              go_wp2_with fail
              go_loopw [16, 17] (fun s16 s17 wn => ∃ (n : Nat) (nx : Int), n ≤ bt.length ∧ s17 = .int .i64 n ∧ s16 = .int .i64 nx ∧ -100 ≤ nx + (n : Int) ∧ nx ≤ 0 ∧ Hid (nxB nx (bt.drop n) = true) ∧ Hid (Below w5.heap.size w5 wn)) (fun _ s17 _ => bt.length - (intOf s17).toNat)
              case atStart => exact ⟨0, -1, Nat.zero_le _, rfl, rfl, by omega, by omega, by rw [List.drop_zero]; exact K3.out, .refl _ _⟩
              case round =>
                rename World => wn
                obtain ⟨n, nx, hn, rfl, rfl, hnx1, hnx2, hN, hBn⟩ := hrel
                by_cases hln : n < bt.length
                · have hnn : (n : Int) < bt.length := by omega
                  obtain ⟨bb, bo, bd, eb, hcb⟩ := ints_at (HI5.out.below hBn.out) hln
                  cases eb
                  obtain ⟨n1, n2⟩ := nxB_drop hln hN.out
                  have hzb := hsg.out _ (nth_mem hln)
                  by_cases hz0 : nth bt n = nx
                  · rw [if_pos hz0] at n2
                    have N2 := Lib.hid n2
                    rw [hz0] at hcb
                    clear n1 n2 hz0 hzb
                    go_wp2_with fail
                    go_roundw
                    case rel => exact ⟨n + 1, nx - 1, by omega, by go_num, rfl, by omega, by omega, N2.out, hBn.out⟩
                    case measure => simp [intOf]; omega
                  · rw [if_neg hz0] at n2
                    have N2 := Lib.hid n2
                    generalize nth bt n = z at *
                    have hze : (z == nx) = false := by rw [beq_eq_false_iff_ne]; exact hz0
                    clear n2
                    go_wp2_with fail
                    go_roundw
                    case rel => exact ⟨n + 1, nx, by omega, by go_num, rfl, by omega, by omega, N2.out, hBn.out⟩
                    case measure => simp [intOf]; omega
                · obtain rfl : n = bt.length := by omega
                  have hB6 := Lib.hid (ext_trans HB5.out hBn.out)
                  cases wb with
                  | false =>
                    go_wp2_with fail
                    go_quiet (fail)
                    go_wp2_with fail
                    go_roundw
                    case rel => exact ⟨k + 1, by omega, by go_num, ext_trans hBl.out (ext_trans hB6.out (below_drewN _ _ _))⟩
                    case measure => simp [intOf]; omega
                  | true =>
                    obtain ⟨g1, g2⟩ := hS2.out wn hB6.out
                    have hg : (wn.drewN 1).heap[w.heap.size]? = some (.cells mv 57 (0, 0)) := hblk.out _ (ext_trans HB3.out (ext_trans hBl.out (ext_trans hB6.out (below_drewN _ wn 1))))
                    have hHC := Lib.hid (hHo.out p.1 p.2 K1.out K2.out _ _ (wn.drewN 1) (HU.out.below (ext_trans hB6.out (below_drewN _ wn 1))) (HX.out.below (ext_trans hB6.out (below_drewN _ wn 1))))
                    rw [K4.out rfl] at hHC
                    go_wp2_with fail
                    refine wp_region_still_tail 13 (by kernel_rfl) (by kernel_rfl) ?_
                    simp only [List.take_succ_cons, List.take_zero, List.drop_succ_cons, List.drop_zero]
                    repeat (first | (refine wpStill_load_row_g (by rfl) 57 _ rfl w.heap.size rfl 57 mv (0, 0) _ hg Try.underlying57 rfl h57 ?_) | still_step)
                    refine wpStill_nil ?_
                    change wpList _ _ _ _ _ (wn.drewN 1)
                    go_wp2_with fail
                    refine hHC.out.mono ?_
                    rintro e w8 ⟨rfl, hb8⟩
                    go_wp2_with fail
                    go_roundw
                    case rel => exact ⟨k + 1, by omega, by go_num, ext_trans hBl.out (ext_trans (ext_trans hB6.out (below_drewN _ wn 1)) hb8)⟩
                    case measure => simp [intOf]; omega
            · obtain rfl : k = ps.length := by omega
              go_wp2_with fail
              refine (pairsBegun_calls wl).mono ?_
              rintro e w9 ⟨rfl, hb9⟩
              go_wp2_with fail
              go_ret
              exact ⟨rfl, ext_trans hB00.out (ext_trans (ext_trans HB3.out hBl.out) hb9)⟩
        · have habf : ((a : Int) == b) = false := by rw [hab, decide_eq_false hab']
          clear hab hab' q2
          have hg := hblk.out wr hBr.out
          have hWC := Lib.hid (hWo.out HL.out _ wr (HV.out.below RuleR.ok hBr.out))
          obtain ⟨wb, hwb⟩ : ∃ wb, wb = worB m l := ⟨_, rfl⟩
          rw [← hwb] at hWC
          have hps2 : Hid (∀ p ∈ ps, chk p.1 = 0 ∧ chk p.2 = 0 ∧ nxB (-1) (p.1 ++ p.2) = true ∧ (wb = true → holB m p.1 p.2 = true)) := by rw [hwb]; exact hps.out
          have HYr := Lib.hid (HY2.out.below RuleR.ok hB.out)
          clear hwb hps hOf hRu
          go_wp2_with (refine wpList_load_row_g (by rfl) 57 _ rfl w.heap.size rfl 57 mv (0, 0) _ hg Try.underlying57 rfl h57 ?_)
          refine hWC.out.mono ?_
          rintro e w3 ⟨rfl, hB3⟩
          have HB3 := Lib.hid (ext_trans hBr.out hB3)
          have HY3 := Lib.hid (HYr.out.below RuleR.ok hB3)
          clear hB3 hg c1 HYr
          go_wp2_with fail
          go_loopw [14] (fun s14 wl => ∃ k : Nat, k ≤ ps.length ∧ s14 = .int .i64 k ∧ Hid (Below w3.heap.size w3 wl)) (fun s14 _ => ps.length - (intOf s14).toNat)
          case atStart => exact ⟨0, Nat.zero_le _, rfl, .refl _ _⟩
          case round =>
            rename World => wl
            obtain ⟨k, hk, rfl, hBl⟩ := hrel
            by_cases hlk : k < ps.length
            · have hkk : (k : Int) < ps.length := by omega
              have HYl := Lib.hid (HY3.out.below RuleR.ok hBl.out)
              obtain ⟨pb, po, pc, u, x, e, hcu, hcx, hu, hx⟩ := prs_at HYl.out hlk
              cases e
              obtain ⟨k1, k2, k3, k4⟩ := hps2.out _ (nthR_mem hlk)
              generalize nthR ps k = p at *
              obtain ⟨u1, u2, rfl⟩ := hu.isSlice
              obtain ⟨x1, x2, rfl⟩ := hx.isSlice
              have HU := Lib.hid hu
              have HX := Lib.hid hx
              have K1 := Lib.hid k1
              have K2 := Lib.hid k2
              have K3 := Lib.hid k3
              have K4 := Lib.hid k4
              have hp1 := len_of_chk k1
              have hp2 := len_of_chk k2
              have hsg : Hid (∀ z ∈ p.1 ++ p.2, -8 ≤ z ∧ z < 6) := fun z hz => by
                rcases List.mem_append.1 hz with h | h
                · exact signs_of_chk K1.out z h
                · exact signs_of_chk K2.out z h
              have hpb : pb < wl.heap.size := World.block_lt_of_cell? _ _ hcu
              have hS2 : Hid (∀ W, Below wl.heap.size wl W → W.cell? ⟨pb, po + k * 2, none⟩ = some (.slice u1 p.1.length u2) ∧ W.cell? ⟨pb, po + k * 2 + 1, none⟩ = some (.slice x1 p.2.length x2)) := fun W hb =>
                ⟨(hb.cell (p := ⟨pb, po + k * 2, none⟩) hpb).trans hcu, (hb.cell (p := ⟨pb, po + k * 2 + 1, none⟩) hpb).trans hcx⟩
              have hO0 : Hid ((wl.alloc (.cells #[] 3)).drew.ownsRow wl.heap.size 3 1 (.slice (some ⟨wl.heap.size, 0, none⟩) 0 0) ([] : List Int).length (([] : List Int).map (Value.int .i64))) :=
                ownsRow_keep (World.ownsRow_made wl #[] 0 (Nat.le_refl _) (by simp [maxLen]) (by simp)) fun _ _ => rfl
              have hbd := Lib.hid (ext_trans (below_alloc wl (.cells #[] 3)) (below_drew _ _))
              have hU0 := Lib.hid (hu.below hbd.out)
              have hTE1 := Lib.hid (TermError_calls p.1 _ wl hu)
              have hTE2 := Lib.hid (TermError_calls p.2 _ wl hx)
              clear hu hx k1 k2 k3 k4
              go_wp2_with fail
              refine hTE1.out.mono ?_
              rintro e w' ⟨rfl, rfl⟩
              rw [K1.out]
              go_wp2_with fail
              refine hTE2.out.mono ?_
              rintro e w' ⟨rfl, rfl⟩
              rw [K2.out]
              go_wp2_with fail
              go_region_held3 (fun W => W.cell? ⟨pb, po + k * 2, none⟩ = some (.slice u1 p.1.length u2) ∧ W.cell? ⟨pb, po + k * 2 + 1, none⟩ = some (.slice x1 p.2.length x2))
                (first | exact hS2.out _ (below_drew _ wl) | exact hS2.out _ hbd.out | exact hS2.out _ HB4.out | exact hS2.out _ HB5.out)
                (first
                  | (refine step_app_ints _ _ 24 (by rfl) (by rfl) wl.heap.size i3 Try.underlying24 hi hz hsz hby (by rfl) (by rfl) hO0.out hU0.out (by simp; omega) (by simp) ?_; intro v4 w4 hown4 hb4 _ _; rw [List.nil_append] at hown4; have HB4 := Lib.hid (hbd.out.trans hb4); have HX4 := Lib.hid (HX.out.below HB4.out); have HO4 := Lib.hid hown4; clear hown4 hb4)
                  | (refine step_app_ints _ _ 24 (by rfl) (by rfl) wl.heap.size i3 Try.underlying24 hi hz hsz hby (by rfl) (by rfl) HO4.out HX4.out (by omega) (Nat.le_trans (Nat.le_refl _) HB4.out.size) ?_; intro v5 w5 hown5 hb5 _ _; have HB5 := Lib.hid (HB4.out.trans hb5); have HO5 := Lib.hid hown5; clear hown5 hb5))
              have HI5 := Lib.hid (ints_of_own HO5.out (by rw [List.length_append]; omega)).any
              have hL60 : (p.1 ++ p.2).length ≤ 60 := by rw [List.length_append]; omega
              clear HO4 HX4 HO5 hO0 hU0
              generalize p.1 ++ p.2 = bt at *
              have hL60' : (bt.length : Int) ≤ 60 := by omega
              obtain ⟨ba, bc, rfl⟩ := HI5.out.isSlice
              go_wp2_with fail
              go_loopw [16, 17] (fun s16 s17 wn => ∃ (n : Nat) (nx : Int), n ≤ bt.length ∧ s17 = .int .i64 n ∧ s16 = .int .i64 nx ∧ -100 ≤ nx + (n : Int) ∧ nx ≤ 0 ∧ Hid (nxB nx (bt.drop n) = true) ∧ Hid (Below w5.heap.size w5 wn)) (fun _ s17 _ => bt.length - (intOf s17).toNat)
              case atStart => exact ⟨0, -1, Nat.zero_le _, rfl, rfl, by omega, by omega, by rw [List.drop_zero]; exact K3.out, .refl _ _⟩
              case round =>
                rename World => wn
                obtain ⟨n, nx, hn, rfl, rfl, hnx1, hnx2, hN, hBn⟩ := hrel
                by_cases hln : n < bt.length
                · have hnn : (n : Int) < bt.length := by omega
                  obtain ⟨bb, bo, bd, eb, hcb⟩ := ints_at (HI5.out.below hBn.out) hln
                  cases eb
                  obtain ⟨n1, n2⟩ := nxB_drop hln hN.out
                  have hzb := hsg.out _ (nth_mem hln)
                  by_cases hz0 : nth bt n = nx
                  · rw [if_pos hz0] at n2
                    have N2 := Lib.hid n2
                    rw [hz0] at hcb
                    clear n1 n2 hz0 hzb
                    go_wp2_with fail
                    go_roundw
                    case rel => exact ⟨n + 1, nx - 1, by omega, by go_num, rfl, by omega, by omega, N2.out, hBn.out⟩
                    case measure => simp [intOf]; omega
                  · rw [if_neg hz0] at n2
                    have N2 := Lib.hid n2
                    generalize nth bt n = z at *
                    have hze : (z == nx) = false := by rw [beq_eq_false_iff_ne]; exact hz0
                    clear n2
                    go_wp2_with fail
                    go_roundw
                    case rel => exact ⟨n + 1, nx, by omega, by go_num, rfl, by omega, by omega, N2.out, hBn.out⟩
                    case measure => simp [intOf]; omega
                · obtain rfl : n = bt.length := by omega
                  have hB6 := Lib.hid (ext_trans HB5.out hBn.out)
                  cases wb with
                  | false =>
                    go_wp2_with fail
                    go_quiet (fail)
                    go_wp2_with fail
                    go_roundw
                    case rel => exact ⟨k + 1, by omega, by go_num, ext_trans hBl.out (ext_trans hB6.out (below_drewN _ _ _))⟩
                    case measure => simp [intOf]; omega
                  | true =>
                    obtain ⟨g1, g2⟩ := hS2.out wn hB6.out
                    have hg : (wn.drewN 1).heap[w.heap.size]? = some (.cells mv 57 (0, 0)) := hblk.out _ (ext_trans HB3.out (ext_trans hBl.out (ext_trans hB6.out (below_drewN _ wn 1))))
                    have hHC := Lib.hid (hHo.out p.1 p.2 K1.out K2.out _ _ (wn.drewN 1) (HU.out.below (ext_trans hB6.out (below_drewN _ wn 1))) (HX.out.below (ext_trans hB6.out (below_drewN _ wn 1))))
                    rw [K4.out rfl] at hHC
                    go_wp2_with fail
                    refine wp_region_still_tail 13 (by kernel_rfl) (by kernel_rfl) ?_
                    simp only [List.take_succ_cons, List.take_zero, List.drop_succ_cons, List.drop_zero]
                    repeat (first | (refine wpStill_load_row_g (by rfl) 57 _ rfl w.heap.size rfl 57 mv (0, 0) _ hg Try.underlying57 rfl h57 ?_) | still_step)
                    refine wpStill_nil ?_
                    change wpList _ _ _ _ _ (wn.drewN 1)
                    go_wp2_with fail
                    refine hHC.out.mono ?_
                    rintro e w8 ⟨rfl, hb8⟩
                    go_wp2_with fail
                    go_roundw
                    case rel => exact ⟨k + 1, by omega, by go_num, ext_trans hBl.out (ext_trans (ext_trans hB6.out (below_drewN _ wn 1)) hb8)⟩
                    case measure => simp [intOf]; omega
            · obtain rfl : k = ps.length := by omega
              go_wp2_with fail
              refine (pairsBegun_calls wl).mono ?_
              rintro e w9 ⟨rfl, hb9⟩
              go_wp2_with fail
              go_ret
              exact ⟨rfl, ext_trans hB00.out (ext_trans (ext_trans HB3.out hBl.out) hb9)⟩
  · have h' : (pofE fb l i j != 0) = true := by simpa using he
    clear he hv0 hfb
    go_enter Try.func26, Try.ntmps26
    go_wp2_with fail
    refine hOf.out.mono ?_
    rintro e w1 ⟨y, rfl, -, hB1⟩
    go_wp2_with fail
    refine (pairsBegun_calls w1).mono ?_
    rintro e w2 ⟨rfl, hB2⟩
    go_wp2_with fail
    go_ret
    exact ⟨rfl, ext_trans hB00.out (ext_trans hB1 hB2)⟩

end Go.Proofs.Ytepddehodmljeaa
