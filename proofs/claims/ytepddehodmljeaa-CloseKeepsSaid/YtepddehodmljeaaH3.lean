/- Walks: a new rule in the shop of close. -/
import Derived.Test.YtepddehodmljeaaH2
namespace Go.Proofs.Ytepddehodmljeaa
open Go.RowKit Go.Maps

theorem shop_put {B : Nat} {w : World} {r : List Int} {l l' : Rus} {e e' : List Ru} {rv lv ev a b : Value} (h : ShopIs B w r l e rv lv ev) (ha : IsRules (fun q => q ≠ B) w a l') (hb : IsRules (fun q => q ≠ B) w b e') :
    ShopIs B ((w.setCell ⟨B, 1, none⟩ a).setCell ⟨B, 2, none⟩ b) r l' e' rv a b ∧ Keeps (fun q => q = B) w ((w.setCell ⟨B, 1, none⟩ a).setCell ⟨B, 2, none⟩ b) := by
  have hk : ∀ (W : World) (k : Nat) (v : Value), Keeps (fun q => q = B) W (W.setCell ⟨B, k, none⟩ v) := fun W k v => ⟨rfl, rfl, rfl, by simp, fun j _ hj => Below.heap_setCell _ _ _ _ hj⟩
  have hK := (hk w 1 a).trans (hk (w.setCell ⟨B, 1, none⟩ a) 2 b)
  have hs : Sok (fun q => q ≠ B) (fun q => q ≠ B) w ((w.setCell ⟨B, 1, none⟩ a).setCell ⟨B, 2, none⟩ b) := hK.sok fun q _ h => h
  have n01 : (⟨B, 0, none⟩ : Addr) ≠ ⟨B, 1, none⟩ := by simp
  have n02 : (⟨B, 0, none⟩ : Addr) ≠ ⟨B, 2, none⟩ := by simp
  have n12 : (⟨B, 1, none⟩ : Addr) ≠ ⟨B, 2, none⟩ := by simp
  have d0 := (World.cell?_setCell_other (w.setCell ⟨B, 1, none⟩ a) _ _ b (Ne.symm n02)).trans ((World.cell?_setCell_other w _ _ a (Ne.symm n01)).trans h.c0)
  have d1' := World.cell?_setCell_same' w ⟨B, 1, none⟩ a (by rw [h.c1]; rfl)
  have d1 := (World.cell?_setCell_other (w.setCell ⟨B, 1, none⟩ a) _ _ b (Ne.symm n12)).trans d1'
  have d2' := (World.cell?_setCell_other w _ _ a n12).trans h.c2
  have d2 := World.cell?_setCell_same' (w.setCell ⟨B, 1, none⟩ a) ⟨B, 2, none⟩ b (by rw [d2']; rfl)
  exact ⟨⟨d0, d1, d2, fun k => by simp [go_sem, h.f k], h.rank.mono hs, IsRow.mono RuleR.ok ha hs, IsRow.mono RuleR.ok hb hs⟩, hK⟩

theorem grown_keeps {w w' : World} {row : Option Nat} (h : w.grownBy w' row) : Keeps (fun b => row = some b) w w' := ⟨h.os, h.tape, h.output, h.size, fun k hk hm => h.block k hk fun e => hm e.symm⟩

theorem ov_len {x rr : Ru} (h1 : chk x.1 = 0) (h2 : chk rr.1 = 0) : chk2 x.1 rr.1 = 0 ∧ (ovB x rr = false → (overT x.1 rr.1).length = 0) ∧ (ovB x rr = true → 0 < (overT x.1 rr.1).length) := by
  have hc : chk2 x.1 rr.1 = 0 := by rw [chk2, if_pos h1, h2]
  have ho : overT x.1 rr.1 = ovr x.1 rr.1 x.1.length := by rw [overT, if_pos hc]
  refine ⟨hc, fun h => ?_, fun h => ?_⟩
  · rw [ho]
    unfold ovB at h
    cases hv : ovr x.1 rr.1 x.1.length with
    | nil => rfl
    | cons a t => rw [hv] at h; simp at h
  · rw [ho]
    unfold ovB at h
    cases hv : ovr x.1 rr.1 x.1.length with
    | nil => rw [hv] at h; simp at h
    | cons a t => simp

set_option maxRecDepth 100000 in
set_option maxHeartbeats 8000000 in
theorem rule_calls {fb : Fb} (hfb : FbOk fb) (B : Nat) (r : List Int) (l : Rus) (e : List Ru) (rr : Ru) (hl : Rul l) (hrr : ruleE rr = 0) (he : e.length ≤ 40) (u x rv lv ev : Value) (w : World) (hS : ShopIs B w r l e rv lv ev)
    (hu : IsInts (fun b => b ≠ B) w u rr.1) (hx : IsInts (fun b => b ≠ B) w x rr.2) :
    Calls Try.prog 177 #[.pointer (some ⟨B, 0, none⟩), .agg #[u, x]] w fun y w' => y = .returned (.int .i64 (addE fb l e rr)) ∧ (addE fb l e rr = 0 → ∃ lv' ev', ShopIs B w' r (newL l rr) (addP fb l e rr) rv lv' ev') ∧ Keeps (fun b => b = B) w w' := by
  obtain ⟨i65, hi, hz, hsz, hby⟩ := info_parts Try.inf65
  obtain ⟨i102, hi2, hz2, hsz2, hby2⟩ := info_parts Try.inf102
  obtain ⟨i51, hi3, hz3, hsz3, hby3⟩ := info_parts Try.inf51
  obtain ⟨u1, u2, rfl⟩ := hu.isSlice
  obtain ⟨x1, x2, rfl⟩ := hx.isSlice
  have hBl := hS.lt
  obtain ⟨la, lc, rfl⟩ := hS.rules.isSlice
  obtain ⟨ea, ec, rfl⟩ := hS.rest.isSlice
  obtain ⟨W1, hW1⟩ : ∃ W1, W1 = w.alloc (.cells #[.slice u1 rr.1.length u2, .slice x1 rr.2.length x2] 102) := ⟨_, rfl⟩
  have hb1 : Below w.heap.size w W1 := by rw [hW1]; exact below_alloc _ _
  have hz1 : w.heap.size < W1.heap.size := by rw [hW1]; simp
  have hS1 := Lib.hid (hS.below hb1)
  have hCl := Lib.hid (clonePs_calls B e he _ W1 hS1.out.rest)
  have hRo : Hid (IsRules (Old B W1.heap.size) W1 (.slice la l.length lc) l) := IsRow.mono RuleR.ok hS1.out.rules ⟨Nat.le_refl _, fun b hb hl => ⟨⟨hl, hb⟩, rfl⟩⟩
  have hU : Hid (IsInts (Old B W1.heap.size) W1 (.slice u1 rr.1.length u2) rr.1) := (hu.below hb1).mono ⟨Nat.le_refl _, fun b hb hl => ⟨⟨hl, hb⟩, rfl⟩⟩
  have hX : Hid (IsInts (Old B W1.heap.size) W1 (.slice x1 rr.2.length x2) rr.2) := (hx.below hb1).mono ⟨Nat.le_refl _, fun b hb hl => ⟨⟨hl, hb⟩, rfl⟩⟩
  have hbox : Hid (∀ W, Below W1.heap.size W1 W → W.cell? ⟨w.heap.size, 0, none⟩ = some (.slice u1 rr.1.length u2) ∧ W.cell? ⟨w.heap.size, 1, none⟩ = some (.slice x1 rr.2.length x2)) := fun W hb =>
    ⟨(hb.cell (p := ⟨w.heap.size, 0, none⟩) hz1).trans (by rw [hW1]; simp [go_sem]), (hb.cell (p := ⟨w.heap.size, 1, none⟩) hz1).trans (by rw [hW1]; simp [go_sem])⟩
  have c1 := hS.c1
  have c2 := hS.c2
  have HB1 := Lib.hid hb1
  have HL := Lib.hid hl
  have HRR := Lib.hid hrr
  have HFB := Lib.hid hfb
  have hll := hl.1
  have hli : (l.length : Int) ≤ 8 := by omega
  have hBN : Hid (B < W1.heap.size) := by rw [Hid]; omega
  have hold : Hid (∀ (v : Value) (e0 : TypeId) (sz : Nat) (α : Type) (R : Rep α) (S : Blk) (W : World) (xs : List α), OwnRow W1.heap.size e0 sz R S W v xs → ∀ b, Old B W1.heap.size b → ¬ v.ownBlock = some b) := fun v e0 sz α R S W xs h b hb e1 => by
    have h1 := (h.block b e1).1
    have h2 := hb.1
    omega
  have hfin0 : Hid (∀ W, Keeps (fun b => b = B) W1 W → Keeps (fun b => b = B) w W) := fun W h => (Keeps.of_below hb1).trans h
  clear hS hu hx hl hrr hfb hb1
  go_enter Try.func177, Try.ntmps177
  go_wp2_with fail
  rw [← hW1]
  clear hW1
  refine hCl.out.mono ?_
  rintro y w2 ⟨r0, rfl, hO0, hb2⟩
  have hO0 := Lib.hid hO0
  have HB2 := Lib.hid hb2
  have d1 := (hS1.out.below hb2).c1
  clear hb2 c1 c2
  go_wp2_with fail
  go_loopw [5, 6, 28] (fun s5 s6 s28 wr => ∃ k : Nat, k ≤ l.length ∧ s28 = .int .i64 k ∧ Hid (OwnRow W1.heap.size 102 2 RuleR (Old B W1.heap.size) wr s5 (stayL (l.take k) rr)) ∧ Hid (OwnRow W1.heap.size 65 2 RuleR (Old B W1.heap.size) wr s6 (e ++ goneL (l.take k) rr)) ∧
    Hid (Below W1.heap.size W1 wr) ∧ Hid (∀ q, s5.ownBlock = some q → s6.ownBlock ≠ some q)) (fun _ _ s28 _ => l.length - (intOf s28).toNat)
  case atStart => exact ⟨0, Nat.zero_le _, rfl, OwnRow.nil _ _ _ _, by rw [List.take_zero, goneL, List.filter_nil, List.append_nil]; exact hO0.out, HB2.out, fun q h => by cases h⟩
  case round =>
    rename World => wr
    obtain ⟨k, hk, rfl, hO5, hO6, hB, hD⟩ := hrel
    have hst1 := stay_le (l.take k) rr
    have hgo1 := gone_le (l.take k) rr
    rw [List.length_take] at hst1 hgo1
    by_cases hlk : k < l.length
    · have hkk : (k : Int) < l.length := by omega
      obtain ⟨b, o, c, uk, xk, e0, hcu, hcx, hiu, hix⟩ := prs_at' (IsRow.below RuleR.ok hRo.out hB.out) hlk
      cases e0
      obtain ⟨uk1, uk2, rfl⟩ := hiu.isSlice
      obtain ⟨xk1, xk2, rfl⟩ := hix.isSlice
      obtain ⟨g1, g2⟩ := HL.out.chk hlk
      have hov := ov_len (x := nthR l k) (rr := rr) g1 (ruleE_chk HRR.out).1
      have hss := Lib.hid (stay_succ (rr := rr) hlk)
      generalize nthR l k = p at *
      have hb3 := below_alloc wr (.cells #[.slice uk1 p.1.length uk2, .slice xk1 p.2.length xk2] 102)
      have hB3 := Lib.hid (ext_trans hB.out hb3)
      have hOv := Lib.hid (Over_calls p.1 rr.1 _ _ _ (hiu.below hb3).any (hU.out.below hB3.out).any)
      obtain ⟨q0, -⟩ := hbox.out _ hB3.out
      have HIU := Lib.hid (hiu.below hb3)
      have HIX := Lib.hid (hix.below hb3)
      have HB3 := Lib.hid hb3
      have hbk : Hid (∀ W, Below (wr.alloc (.cells #[.slice uk1 p.1.length uk2, .slice xk1 p.2.length xk2] 102)).heap.size (wr.alloc (.cells #[.slice uk1 p.1.length uk2, .slice xk1 p.2.length xk2] 102)) W → W.cell? ⟨wr.heap.size, 0, none⟩ = some (.slice uk1 p.1.length uk2) ∧ W.cell? ⟨wr.heap.size, 1, none⟩ = some (.slice xk1 p.2.length xk2)) := fun W hb =>
        ⟨(hb.cell (p := ⟨wr.heap.size, 0, none⟩) (by simp)).trans (by simp [go_sem]), (hb.cell (p := ⟨wr.heap.size, 1, none⟩) (by simp)).trans (by simp [go_sem])⟩
      have hov0 := Lib.hid hov.1
      have hov1 := Lib.hid hov.2
      clear hiu hix hb3 g1 g2 hov
      go_wp2_with fail
      refine hOv.out.mono ?_
      rintro y w3 ⟨ov, rfl, hov, hb4⟩
      obtain ⟨oa, oc, rfl⟩ := hov.isSlice
      have HB4 := Lib.hid hb4
      obtain ⟨k0, k1⟩ := hbk.out w3 hb4
      have hBw3 := Lib.hid (ext_trans HB3.out hb4)
      have hO5' := Lib.hid (hO5.out.below RuleR.ok hBw3.out)
      have hO6' := Lib.hid (hO6.out.below RuleR.ok hBw3.out)
      have HIU3 := Lib.hid (HIU.out.below hb4)
      have HIX3 := Lib.hid (HIX.out.below hb4)
      have hBW3 := Lib.hid (ext_trans hB.out hBw3.out)
      rw [hov0.out]
      clear hov hb4 q0
      cases hob : ovB p rr with
      | false =>
        have hz0 := hov1.out.1 hob
        have hs5 : Hid (stayL (l.take (k + 1)) rr = stayL (l.take k) rr ++ [p] ∧ goneL (l.take (k + 1)) rr = goneL (l.take k) rr) := by
          obtain ⟨h1, h2⟩ := hss.out
          rw [hob] at h1 h2
          exact ⟨h1, by simpa using h2⟩
        have hel : Hid (RuleR (Both' (Old B W1.heap.size) (Off u5)) w3 [.slice uk1 p.1.length uk2, .slice xk1 p.2.length xk2] p) :=
          ⟨_, _, rfl, HIU3.out.mono (.weak fun q hq => ⟨hq, hold.out _ _ _ _ _ _ _ _ hO5.out q hq⟩), HIX3.out.mono (.weak fun q hq => ⟨hq, hold.out _ _ _ _ _ _ _ _ hO5.out q hq⟩)⟩
        have hlen : Hid (((stayL (l.take k) rr).length + 1) * 48 ≤ 100000000) := by rw [Hid]; omega
        rw [hz0]
        clear hob hz0
        go_wp2_with (at_builtin; refine app_one RuleR.ok _ _ 49 rfl rfl W1.heap.size 102 i102 (.agg #[.slice none 0 0, .slice none 0 0]) 48 Try.underlying49 hi2 hz2 hsz2 hby2 rfl (by decide) hO5'.out (us := [.slice uk1 p.1.length uk2, .slice xk1 p.2.length xk2]) (y := p) rfl rfl rfl ?ca1 hel.out hlen.out (by decide) hBW3.out.size ?ca4; rotate_left 1; intro v' w4 hown4 hb4 hk4 hbk4)
        case ca1 => intro q hq; simp at hq; rcases hq with rfl | rfl <;> rfl
        go_roundw
        case rel =>
          refine ⟨k + 1, by omega, by go_num, by rw [hs5.out.1]; exact hown4, ?_, hBW3.out.trans hb4, fun q hq hq6 => ?_⟩
          · rw [hs5.out.2]
            exact own_aside RuleR.ok hO6'.out hk4 (hold.out _ _ _ _ _ _ _ _ hO5.out) fun q hq h5 => hD.out q h5 hq
          · rcases hbk4 q hq with h1 | h1
            · exact hD.out q h1 hq6
            · have := (hO6'.out.block q hq6).2; omega
        case measure => simp [intOf]; omega
      | true =>
        have hz0 := hov1.out.2 hob
        have hs5 : Hid (stayL (l.take (k + 1)) rr = stayL (l.take k) rr ∧ goneL (l.take (k + 1)) rr = goneL (l.take k) rr ++ [p]) := by
          obtain ⟨h1, h2⟩ := hss.out
          rw [hob] at h1 h2
          exact ⟨by simpa using h1, h2⟩
        have hel : Hid (RuleR (Both' (Old B W1.heap.size) (Off u6)) w3 [.slice uk1 p.1.length uk2, .slice xk1 p.2.length xk2] p) :=
          ⟨_, _, rfl, HIU3.out.mono (.weak fun q hq => ⟨hq, hold.out _ _ _ _ _ _ _ _ hO6.out q hq⟩), HIX3.out.mono (.weak fun q hq => ⟨hq, hold.out _ _ _ _ _ _ _ _ hO6.out q hq⟩)⟩
        have hlen : Hid (((e ++ goneL (l.take k) rr).length + 1) * 48 ≤ 100000000) := by rw [Hid, List.length_append]; omega
        generalize (overT p.1 rr.1).length = ol at *
        have hol : ((ol : Int) == 0) = false := by rw [beq_eq_false_iff_ne]; omega
        clear hob hz0
        go_wp2_with (at_builtin; refine app_one RuleR.ok _ _ 50 rfl rfl W1.heap.size 65 i65 (.agg #[.slice none 0 0, .slice none 0 0]) 48 Try.underlying50 hi hz hsz hby rfl (by decide) hO6'.out (us := [.slice uk1 p.1.length uk2, .slice xk1 p.2.length xk2]) (y := p) rfl rfl rfl ?cb1 hel.out hlen.out (by decide) hBW3.out.size ?cb4; rotate_left 1; intro v' w4 hown4 hb4 hk4 hbk4)
        case cb1 => intro q hq; simp at hq; rcases hq with rfl | rfl <;> rfl
        go_roundw
        case rel =>
          refine ⟨k + 1, by omega, by go_num, ?_, by rw [hs5.out.2, ← List.append_assoc]; exact hown4, hBW3.out.trans hb4, fun q hq hq6 => ?_⟩
          · rw [hs5.out.1]
            exact own_aside RuleR.ok hO5'.out hk4 (hold.out _ _ _ _ _ _ _ _ hO6.out) fun q hq h6 => hD.out q hq h6
          · rcases hbk4 q hq6 with h1 | h1
            · exact hD.out q hq h1
            · have := (hO5'.out.block q hq).2; omega
        case measure => simp [intOf]; omega
    · obtain rfl : k = l.length := by omega
      rw [List.take_length] at hO5 hO6 hst1 hgo1
      obtain ⟨sa, sc, hs5v⟩ := (OwnRow.isRow RuleR.ok hO5.out (T := Any) (fun _ _ => trivial) (fun _ _ => trivial) (by omega)).isSlice
      subst hs5v
      obtain ⟨q0, q1⟩ := hbox.out wr hB.out
      have hel : Hid (RuleR (Both' (Old B W1.heap.size) (Off (.slice sa (stayL l rr).length sc))) wr [.slice u1 rr.1.length u2, .slice x1 rr.2.length x2] rr) :=
        ⟨_, _, rfl, (hU.out.below hB.out).mono (.weak fun q hq => ⟨hq, hold.out _ _ _ _ _ _ _ _ hO5.out q hq⟩), (hX.out.below hB.out).mono (.weak fun q hq => ⟨hq, hold.out _ _ _ _ _ _ _ _ hO5.out q hq⟩)⟩
      have hlen : Hid (((stayL l rr).length + 1) * 48 ≤ 100000000) := by rw [Hid]; omega
      have hnl : Hid (newL l rr = stayL l rr ++ [rr]) := rfl
      have hnl9 : (newL l rr).length ≤ 9 := by have := newL_len l rr; omega
      have hnll := Lib.hid (newL_len l rr)
      have hn9 : ((stayL l rr).length : Int) ≤ 8 := by omega
      have hszr : Hid (W1.heap.size ≤ wr.heap.size) := hB.out.size
      by_cases h8 : 8 < (newL l rr).length
      · have hA : Hid (addE fb l e rr = 2) := by rw [Hid, addE, if_pos h8]
        have h8i : (8 : Int) < ((newL l rr).length : Nat) := by omega
        go_wp2_with (at_builtin; refine app_one RuleR.ok _ _ 49 rfl rfl W1.heap.size 102 i102 (.agg #[.slice none 0 0, .slice none 0 0]) 48 Try.underlying49 hi2 hz2 hsz2 hby2 rfl (by decide) hO5.out (us := [.slice u1 rr.1.length u2, .slice x1 rr.2.length x2]) (y := rr) rfl rfl rfl ?cc1 hel.out hlen.out (by decide) hszr.out ?cc4; rotate_left 1; intro v' w4 hown4 hb4 hk4 hbk4; rw [← hnl.out] at hown4; obtain ⟨na, nc, hsv⟩ := (OwnRow.isRow RuleR.ok hown4 (T := Any) (fun _ _ => trivial) (fun _ _ => trivial) (by omega)).isSlice; subst hsv; have HB4 := Lib.hid (hB.out.trans hb4); clear hown4 hb4 hk4 hbk4)
        case cc1 => intro q hq; simp at hq; rcases hq with rfl | rfl <;> rfl
        go_ret
        exact ⟨ret_int hA.out.symm, (fun h => by rw [hA.out] at h; cases h), hfin0.out _ (Keeps.of_below HB4.out)⟩
      · have h8i : ¬ (8 : Int) < ((newL l rr).length : Nat) := by omega
        have h8d : decide ((((newL l rr).length : Nat) : Int) > 8) = false := decide_eq_false (by omega)
        have hnlR : Hid (Rul (newL l rr)) := ⟨by omega, fun p hp => by
          rcases List.mem_append.1 hp with hp | hp
          · exact HL.out.2 p (stay_mem hp)
          · simp at hp; subst hp; exact HRR.out⟩
        go_wp2_with (at_builtin; refine app_one RuleR.ok _ _ 49 rfl rfl W1.heap.size 102 i102 (.agg #[.slice none 0 0, .slice none 0 0]) 48 Try.underlying49 hi2 hz2 hsz2 hby2 rfl (by decide) hO5.out (us := [.slice u1 rr.1.length u2, .slice x1 rr.2.length x2]) (y := rr) rfl rfl rfl ?cd1 hel.out hlen.out (by decide) hszr.out ?cd4; rotate_left 1; intro v' w4 hown4 hb4 hk4 hbk4; rw [← hnl.out] at hown4; obtain ⟨na, nc, hsv⟩ := (OwnRow.isRow RuleR.ok hown4 (T := Any) (fun _ _ => trivial) (fun _ _ => trivial) (by omega)).isSlice; subst hsv; have HB4 := Lib.hid (hB.out.trans hb4); have HO4 := Lib.hid hown4; have HK4 := Lib.hid hk4; have HBK4 := Lib.hid hbk4; clear hown4 hb4 hk4 hbk4)
        case cd1 => intro q hq; simp at hq; rcases hq with rfl | rfl <;> rfl
        have hR4 := Lib.hid (own_aside RuleR.ok hO6.out HK4.out (hold.out _ _ _ _ _ _ _ _ hO5.out) fun q hq h5 => hD.out q h5 hq)
        have hD4 : Hid (∀ q, (Value.slice na (newL l rr).length nc).ownBlock = some q → u6.ownBlock ≠ some q) := fun q hq hq6 => by
          rcases HBK4.out q hq with h1 | h1
          · exact hD.out q h1 hq6
          · have := (hO6.out.block q hq6).2; omega
        clear HK4 HBK4 hel hlen q0 q1
        generalize hn : (stayL l rr).length = n at *
        have hn8 : (n : Int) ≤ 7 := by have := hnll.out; omega
        go_loopw [12, 67] (fun s12 s67 w5 => ∃ k : Nat, k ≤ n ∧ s67 = .int .i64 k ∧ Hid (OwnRow w4.heap.size 51 2 WayR (Old B W1.heap.size) w5 s12 (waysK n k)) ∧ Hid (Below w4.heap.size w4 w5)) (fun _ s67 _ => n - (intOf s67).toNat)
        case atStart => exact ⟨0, Nat.zero_le _, rfl, ⟨[], rfl, World.ownsRow_made w4 #[] 0 (Nat.le_refl _) (by simp [maxLen]) (by simp)⟩, below_alloc _ _⟩
        case round =>
          rename World => w5
          obtain ⟨k, hk, rfl, hOw, hB5⟩ := hrel
          have hwl := waysK_len n k
          by_cases hlk : k < n
          · have hkk : (k : Int) < n := by omega
            have hws := Lib.hid (waysK_succ n k)
            have hel : Hid (Elems 2 WayR (Both' (Old B W1.heap.size) (Off u12)) w5 [.int .i64 (k : Int), .int .i64 (n : Int), .int .i64 (n : Int), .int .i64 (k : Int)] [(k, n), (n, k)]) :=
              ⟨[_, _], [_, _], rfl, rfl, rfl, [_, _], [], rfl, rfl, rfl, rfl⟩
            have hlen : Hid (((waysK n k).length + [(k, n), (n, k)].length) * 16 ≤ 100000000) := by rw [Hid, hwl]; simp; omega
            have hsz5 : Hid (w4.heap.size ≤ w5.heap.size) := hB5.out.size
            go_wp2_with (at_builtin; refine app_lit WayR.ok _ _ 216 rfl rfl w4.heap.size 51 i51 (.agg #[.int .i64 0, .int .i64 0]) 16 Try.underlying216 hi3 hz3 hsz3 hby3 rfl (by decide) hOw.out (us := [.int .i64 (k : Int), .int .i64 (n : Int), .int .i64 (n : Int), .int .i64 (k : Int)]) (ys := [(k, n), (n, k)]) rfl rfl rfl ?ce1 hel.out hlen.out (by decide) hsz5.out ?ce4; rotate_left 1; intro v' w6 hown6 hb6 _ _; rw [← hws.out] at hown6)
            case ce1 => intro q hq; simp at hq; rcases hq with rfl | rfl | rfl | rfl <;> rfl
            go_roundw
            case rel => exact ⟨k + 1, by omega, by go_num, hown6, hB5.out.trans hb6⟩
            case measure => simp [intOf]; omega
          · obtain rfl : k = n := by omega
            have hel : Hid (WayR (Both' (Old B W1.heap.size) (Off u12)) w5 [.int .i64 (k : Int), .int .i64 (k : Int)] (k, k)) := rfl
            have hlen : Hid (((waysK k k).length + 1) * 16 ≤ 100000000) := by rw [Hid, hwl]; omega
            have hsz5 : Hid (w4.heap.size ≤ w5.heap.size) := hB5.out.size
            have hwsl : Hid ((waysL k).length = 2 * k + 1) := by rw [Hid, waysL, List.length_append, waysK_len]; rfl
            have hwse : Hid (waysL k = waysK k k ++ [(k, k)]) := rfl
            have hwi : ((waysL k).length : Int) ≤ 17 := by have := hwsl.out; omega
            have hsz4 : Hid (W1.heap.size ≤ w4.heap.size) := HB4.out.size
            go_wp2_with (at_builtin; refine app_one WayR.ok _ _ 216 rfl rfl w4.heap.size 51 i51 (.agg #[.int .i64 0, .int .i64 0]) 16 Try.underlying216 hi3 hz3 hsz3 hby3 rfl (by decide) hOw.out (us := [.int .i64 (k : Int), .int .i64 (k : Int)]) (y := (k, k)) rfl rfl rfl ?cf1 hel.out hlen.out (by decide) hsz5.out ?cf4; rotate_left 1; intro v' w6 hown6 hb6 _ _; rw [← hwse.out] at hown6; obtain ⟨wa, wc, hsv⟩ := (OwnRow.isRow WayR.ok hown6 (T := Any) (fun _ _ => trivial) (fun _ _ => trivial) (by omega)).isSlice; subst hsv; have HB6 := Lib.hid (hB5.out.trans hb6); have HO6 := Lib.hid hown6; clear hown6 hb6)
            case cf1 => intro q hq; simp at hq; subst hq; rfl
            have hW46 := Lib.hid (HB4.out.trans (HB6.out.mono hsz4.out))
            have hSt6 : Hid (OwnRow W1.heap.size 102 2 RuleR (Old B W1.heap.size) w6 (.slice na (newL l rr).length nc) (newL l rr)) := HO4.out.below RuleR.ok HB6.out
            have hRe6 : Hid (OwnRow W1.heap.size 65 2 RuleR (fun q => q ≠ B) w6 u6 (e ++ goneL l rr)) := (hR4.out.below RuleR.ok HB6.out).mono RuleR.ok (.weak fun q hq => hq.2) fun _ _ => rfl
            have hWs6 : Hid (OwnRow w4.heap.size 51 2 WayR (Old B W1.heap.size) w6 (.slice wa (waysL k).length wc) (waysL k)) := HO6.out
            have hD6 : Hid (∀ q, u6.ownBlock = some q → (Value.slice na (newL l rr).length nc).ownBlock ≠ some q ∧ (Value.slice wa (waysL k).length wc).ownBlock ≠ some q) := fun q hq => ⟨fun h => hD4.out q h hq, fun h => by
              have h1 := (HO6.out.block q h).1
              have h2 := (hR4.out.block q hq).2
              omega⟩
            have hlt6 : Hid (∀ w ∈ waysL k, w.1 < (newL l rr).length ∧ w.2 < (newL l rr).length) := fun w hw => by
              have := ways_lt hw; have := hnll.out; omega
            have hgl : Hid (e.length ≤ 40 ∧ (goneL l rr).length ≤ 8) := ⟨he, by omega⟩
            clear HO4 HO6 hR4 hD4 hOw hO5 hO6 hel hlen hwse
            have hkn : Hid (waysL (stayL l rr).length = waysL k) := by rw [Hid, hn]
            clear hn
            generalize waysL k = ws at *
            go_loopw [6, 87] (fun s6 s87 wq => ∃ k2 : Nat, k2 ≤ ws.length ∧ s87 = .int .i64 k2 ∧ Hid (OwnRow W1.heap.size 65 2 RuleR (fun q => q ≠ B) wq s6 ((e ++ goneL l rr) ++ wayP fb (newL l rr) (ws.take k2))) ∧
              Hid (OwnRow W1.heap.size 102 2 RuleR (Old B W1.heap.size) wq (.slice na (newL l rr).length nc) (newL l rr)) ∧ Hid (OwnRow w4.heap.size 51 2 WayR (Old B W1.heap.size) wq (.slice wa ws.length wc) ws) ∧ Hid (Below W1.heap.size W1 wq) ∧
              Hid (∀ w ∈ ws.take k2, twoE fb (newL l rr) w.1 w.2 = 0) ∧ Hid (∀ q, s6.ownBlock = some q → (Value.slice na (newL l rr).length nc).ownBlock ≠ some q ∧ (Value.slice wa ws.length wc).ownBlock ≠ some q)) (fun _ s87 _ => ws.length - (intOf s87).toNat)
            case atStart => exact ⟨0, Nat.zero_le _, rfl, by rw [List.take_zero]; rw [show (e ++ goneL l rr) ++ wayP fb (newL l rr) [] = e ++ goneL l rr from List.append_nil _]; exact hRe6.out, hSt6.out, hWs6.out, hW46.out, (fun w hw => by simp at hw), hD6.out⟩
            case round =>
              rename World => wq
              obtain ⟨k2, hk2, rfl, hRe, hSt, hWs, hBq, hZ, hD7⟩ := hrel
              have hwp := wayP_le HFB.out hnlR.out (ws := ws.take k2) (fun w hw => hlt6.out w (List.mem_of_mem_take hw))
              rw [List.length_take] at hwp
              have hg := hgl.out
              have hRn : Hid (IsRules (fun q => q ≠ B) wq (.slice na (newL l rr).length nc) (newL l rr)) := OwnRow.isRow RuleR.ok hSt.out (fun q hq => hq.2) (fun q hq e1 => by
                have h2 := hBN.out
                omega) (by omega)
              by_cases hlk : k2 < ws.length
              · have hkk : (k2 : Int) < ws.length := by omega
                obtain ⟨b, o, c, e0, hc0, hc1⟩ := ways_at (OwnRow.isRow WayR.ok hWs.out (T := Any) (fun _ _ => trivial) (fun _ _ => trivial) (by omega)) hlk
                cases e0
                obtain ⟨l1, l2⟩ := hlt6.out _ (nthW_mem hlk)
                have htk := Lib.hid (takeW hlk)
                generalize nthW ws k2 = y at *
                have hb3 := below_alloc wq (.cells #[.int .i64 (y.1 : Int), .int .i64 (y.2 : Int)] 51)
                have hTw := Lib.hid (Two_calls HFB.out (newL l rr) hnlR.out y.1 y.2 l1 l2 _ _ ((IsRow.any RuleR.ok hRn.out).below RuleR.ok hb3))
                have h2l := Lib.hid (twoL_le HFB.out hnlR.out l1 l2)
                have HB3 := Lib.hid hb3
                have hsz3 : Hid (wq.heap.size < (wq.alloc (.cells #[.int .i64 (y.1 : Int), .int .i64 (y.2 : Int)] 51)).heap.size) := by rw [Hid]; simp
                clear hb3 l1 l2
                go_wp2_with fail
                refine hTw.out.mono ?_
                rintro z w8 ⟨pv, rfl, hpv, hb4⟩
                obtain ⟨pa, pc, rfl⟩ := hpv.isSlice
                have HPV := Lib.hid hpv
                have HBq8 := Lib.hid (ext_trans HB3.out hb4)
                have hBW8 := Lib.hid (ext_trans hBq.out HBq8.out)
                clear hpv hb4 hc0 hc1
                rcases twoE_two fb (newL l rr) y.1 y.2 with h0 | h0
                · have hRe8 := Lib.hid (hRe.out.below RuleR.ok HBq8.out)
                  have hSt8 := Lib.hid (hSt.out.below RuleR.ok HBq8.out)
                  have hWs8 := Lib.hid (hWs.out.below WayR.ok HBq8.out)
                  have hZ8 : Hid (∀ w ∈ ws.take (k2 + 1), twoE fb (newL l rr) w.1 w.2 = 0) := fun w hw => by
                    rw [htk.out] at hw
                    rcases List.mem_append.1 hw with h | h
                    · exact hZ.out w h
                    · simp at h; subst h; exact h0
                  have hTS : Hid (∀ q, Fr (wq.alloc (.cells #[.int .i64 (y.1 : Int), .int .i64 (y.2 : Int)] 51)).heap.size q → (fun q => q ≠ B) q ∧ u6.ownBlock ≠ some q) := fun q hq => by
                    have h1 : (wq.alloc (.cells #[.int .i64 (y.1 : Int), .int .i64 (y.2 : Int)] 51)).heap.size ≤ q := hq
                    have h2 := hsz3.out
                    have h3 := hBN.out
                    have h4 := hBq.out.size
                    refine ⟨fun h => by omega, fun h => ?_⟩
                    have := (hRe.out.block q h).2
                    omega
                  have hap : Hid ((((e ++ goneL l rr) ++ wayP fb (newL l rr) (ws.take k2)).length + (twoL fb (newL l rr) y.1 y.2).length) * 48 ≤ 100000000) := by
                    have := h2l.out
                    rw [Hid, List.length_append, List.length_append]; omega
                  rw [h0]
                  clear h0
                  go_wp2_with (at_builtin; refine app_rules _ _ 50 rfl rfl W1.heap.size 65 i65 Try.underlying50 hi hz hsz hby hRe8.out HPV.out hTS.out hap.out hBW8.out.size ?_; intro v' w9 hown9 hb9 hk9 hbk9)
                  go_roundw
                  case rel =>
                    refine ⟨k2 + 1, by omega, by go_num, by rw [htk.out, wayP_snoc, ← List.append_assoc]; exact hown9, own_aside RuleR.ok hSt8.out (grown_keeps hk9) (fun q hq h6 => ?_) (fun q hq h6 => (hD7.out q h6).1 hq), own_aside WayR.ok hWs8.out (grown_keeps hk9) (fun q hq h6 => ?_) (fun q hq h6 => (hD7.out q h6).2 hq), hBW8.out.trans hb9, hZ8.out, fun q hq => ?_⟩
                    · exact hold.out _ _ _ _ _ _ _ _ hRe.out q hq h6
                    · exact hold.out _ _ _ _ _ _ _ _ hRe.out q hq h6
                    · rcases hbk9 q hq with h1 | h1
                      · exact hD7.out q h1
                      · refine ⟨fun h => ?_, fun h => ?_⟩
                        · have := (hSt8.out.block q h).2; omega
                        · have := (hWs8.out.block q h).2; omega
                  case measure => simp [intOf]; omega
                · have hA : Hid (addE fb l e rr = 2) := by
                    have hw : wayB fb (newL l rr) (waysL (stayL l rr).length) = true := by
                      rw [hkn.out, wayB]
                      refine List.any_eq_true.2 ⟨y, ?_, by simp [h0]⟩
                      refine List.mem_of_mem_take (i := k2 + 1) ?_
                      rw [htk.out]; simp
                    rw [Hid, addE, if_neg h8, if_pos hw]
                  rw [h0]
                  clear h0
                  go_wp2_with fail
                  go_ret
                  exact ⟨ret_int hA.out.symm, (fun h => by rw [hA.out] at h; cases h), hfin0.out _ (Keeps.of_below hBW8.out)⟩
              · obtain rfl : k2 = ws.length := by omega
                rw [List.take_length] at hRe hZ hwp
                have hnw := Lib.hid (wayB_no hZ.out)
                have hPe : Hid (addP fb l e rr = (e ++ goneL l rr) ++ wayP fb (newL l rr) ws) := by rw [Hid, addP, hkn.out]
                have hpl : ((e ++ goneL l rr) ++ wayP fb (newL l rr) ws).length ≤ 2000 := by rw [List.length_append, List.length_append]; omega
                generalize (e ++ goneL l rr) ++ wayP fb (newL l rr) ws = pl at *
                obtain ⟨ua, uc, hu6⟩ := (OwnRow.isRow RuleR.ok hRe.out (T := Any) (fun _ _ => trivial) (fun _ _ => trivial) (by omega)).isSlice
                subst hu6
                have hSq := Lib.hid (hS1.out.below hBq.out)
                have q1 := hSq.out.c1
                have q2 := hSq.out.c2
                have f1 := hSq.out.f 1
                have f2 := hSq.out.f 2
                have hNE : Hid (IsRules (fun q => q ≠ B) wq (.slice ua pl.length uc) (addP fb l e rr)) := by
                  rw [hPe.out]
                  exact OwnRow.isRow RuleR.ok hRe.out (fun q hq => hq) (fun q hq e1 => by have h2 := hBN.out; omega) (by omega)
                have hsp := Lib.hid (shop_put hSq.out hRn.out hNE.out)
                by_cases h40 : 40 < (addP fb l e rr).length
                · have hA : Hid (addE fb l e rr = 2) := by rw [Hid, addE, if_neg h8, if_neg (by rw [hkn.out]; exact hnw.out), if_pos h40]
                  have h40i : (40 : Int) < ((addP fb l e rr).length : Nat) := by omega
                  rw [hPe.out] at h40i
                  go_wp2_with fail
                  go_ret
                  exact ⟨ret_int hA.out.symm, (fun h => by rw [hA.out] at h; cases h), hfin0.out _ (Keeps.of_below hBq.out)⟩
                · have hA : Hid (addE fb l e rr = 0) := by rw [Hid, addE, if_neg h8, if_neg (by rw [hkn.out]; exact hnw.out), if_neg h40]
                  have h40i : ¬ (40 : Int) < ((addP fb l e rr).length : Nat) := by omega
                  rw [hPe.out] at h40i
                  go_wp2_with fail
                  go_ret
                  exact ⟨ret_int hA.out.symm, (fun _ => ⟨_, _, hsp.out.1⟩), hfin0.out _ ((Keeps.of_below hBq.out).trans hsp.out.2)⟩

end Go.Proofs.Ytepddehodmljeaa
