/- Walks: OrderKeeps. -/
import Derived.Test.YtepddehodmljeaaO7
import Derived.Deep.DeepCutAuto
namespace Go.Proofs.Ytepddehodmljeaa
open Go.RowKit Go.Maps

def posK (a : List Int) (k : Nat) : Bool := decide (∀ j, j < k → 0 ≤ nth a j)
theorem posK_zero (a : List Int) : posK a 0 = true := decide_eq_true fun j h => by omega
theorem posK_succ (a : List Int) (k : Nat) : posK a (k + 1) = (posK a k && decide (0 ≤ nth a k)) := by
  unfold posK
  rw [Bool.eq_iff_iff, Bool.and_eq_true, decide_eq_true_iff, decide_eq_true_iff, decide_eq_true_iff]
  constructor
  · exact fun h => ⟨fun j hj => h j (by omega), h k (by omega)⟩
  · rintro ⟨h1, h2⟩ j hj
    by_cases e : j = k
    · rw [e]; exact h2
    · exact h1 j (by omega)
theorem posK_all {a : List Int} (h : posK a a.length = true) : ∀ x ∈ a, 0 ≤ x := by
  intro x hx
  obtain ⟨j, hj, rfl⟩ := List.getElem_of_mem hx
  have := of_decide_eq_true h j hj
  rwa [nth_eq hj] at this

set_option maxRecDepth 100000 in
set_option maxHeartbeats 8000000 in
theorem OrderKeeps_calls (r a b : List Int) (s : List (List Int)) (t : List Int) (k : Int) (rv av bv sv tv : Value) (w : World) (hr : IsInts Any w rv r) (ha : IsInts Any w av a) (hb : IsInts Any w bv b) (hs : IsTerms Any w sv s) (ht : IsInts Any w tv t) (hk : -9223372036854775808 ≤ k ∧ k ≤ 9223372036854775807) :
    Calls Try.prog 20 #[rv, av, bv, sv, tv, .int .i64 k] w fun e w' => e = .returned (.bool true) ∧ Below w.heap.size w w' := by
  obtain ⟨hk1, hk2⟩ := hk
  obtain ⟨t1, t2, rfl⟩ := ht.isSlice
  by_cases he : aboveE r a b = 0
  · obtain ⟨hra, hca, hcb⟩ := aboveE_zero he
    have hE : Hid (aboveE r a b = 0 ∧ aboveE r b a = 0) := ⟨he, aboveE_of hra hcb hca⟩
    obtain ⟨a1, a2, a3, rfl⟩ := ha.cells (ne_of_chk hca)
    obtain ⟨b1, b2, b3, rfl⟩ := hb.cells (ne_of_chk hcb)
    have hC := Lib.hid (And.intro hra (And.intro hca hcb))
    have hla := len_of_chk hca
    have hlb := len_of_chk hcb
    have htot := Lib.hid fun h1 h2 h3 => order_total (r := r) (a := a) (b := b) he h1 h2 h3
    have hins := Lib.hid fun (h1 : aboveB r a b = true) (h2 : applyE s a = 0) (h3 : applyE s b = 0) => order_inst he h1 h2 h3
    have hput := Lib.hid fun (h1 : aboveB r a b = true) (h2 : chk t = 0) (k : Nat) (h3 : k < t.length) h4 h5 => order_put he h1 h2 h3 h4 h5
    clear he hra hca hcb
    go_enter Try.func20, Try.ntmps20
    go_wp2_with fail
    refine (Above_calls r a b _ _ _ w hr ha hb).mono ?_
    rintro e w1 ⟨rfl, hB1⟩
    replace hr := hr.below hB1
    replace ha := ha.below hB1
    replace hb := hb.below hB1
    replace hs := hs.below TermR.ok hB1
    replace ht := ht.below hB1
    rw [hE.out.1]
    go_wp2_with fail
    refine (Above_calls r b a _ _ _ w1 hr hb ha).mono ?_
    rintro e w2 ⟨rfl, hB2⟩
    replace hr := hr.below hB2
    replace ha := ha.below hB2
    replace hb := hb.below hB2
    replace hs := hs.below TermR.ok hB2
    replace ht := ht.below hB2
    replace hB1 := ext_trans hB1 hB2
    clear hB2
    rw [hE.out.2]
    generalize hab : aboveB r a b = ab at *
    generalize hba : aboveB r b a = ba at *
    have HAB := Lib.hid (And.intro hab hba)
    clear hab hba
    have HA := Lib.hid ha
    have HBb := Lib.hid hb
    go_wp2_with fail
    go_loopw [17, 18] (fun f i wr => ∃ n : Nat, n ≤ a.length ∧ i = .int .i64 n ∧ f = .bool (posK a n) ∧ Hid (Below w2.heap.size w2 wr)) (fun _ i _ => a.length - (intOf i).toNat)
    case atStart => exact ⟨0, Nat.zero_le _, rfl, by rw [posK_zero], .refl _ _⟩
    case round =>
      obtain ⟨n, hn, rfl, rfl, hR⟩ := hrel
      by_cases hlt : n < a.length
      · have hcell := (HA.out.below hR.out).cell hlt
        have hii : (n : Int) < a.length := by omega
        have hP := Lib.hid (posK_succ a n)
        cases hp : posK a n
        · rw [hp] at hP
          clear hp
          go_wp2_with fail
          go_roundw
          case rel => exact ⟨n + 1, by omega, by go_num, by rw [hP.out]; rfl, hR.out⟩
          case measure => simp [intOf]; omega
        · rw [hp] at hP
          clear hp
          go_wp2_with fail
          go_roundw
          case rel => exact ⟨n + 1, by omega, by go_num, by rw [hP.out]; rfl, hR.out⟩
          case measure => simp [intOf]; omega
      · obtain rfl : n = a.length := by omega
        have hR1 := Lib.hid hR.out
        go_wp2_with fail
        go_loopw [17, 19] (fun f i wr => ∃ n : Nat, n ≤ b.length ∧ i = .int .i64 n ∧ f = .bool (posK a a.length && posK b n) ∧ Hid (Below w2.heap.size w2 wr)) (fun _ i _ => b.length - (intOf i).toNat)
        case atStart => exact ⟨0, Nat.zero_le _, rfl, by rw [posK_zero, Bool.and_true], hR1.out⟩
        case round =>
          obtain ⟨n, hn, rfl, rfl, hR⟩ := hrel
          by_cases hlt : n < b.length
          · have hcell := (HBb.out.below hR.out).cell hlt
            have hii : (n : Int) < b.length := by omega
            have hP : Hid ((posK a a.length && posK b (n + 1)) = ((posK a a.length && posK b n) && decide (0 ≤ nth b n))) := by rw [Hid, posK_succ, Bool.and_assoc]
            generalize (posK a a.length && posK b n) = fv at *
            cases fv
            · go_wp2_with fail
              go_roundw
              case rel => exact ⟨n + 1, by omega, by go_num, by rw [hP.out]; rfl, hR.out⟩
              case measure => simp [intOf]; omega
            · go_wp2_with fail
              go_roundw
              case rel => exact ⟨n + 1, by omega, by go_num, by rw [hP.out]; rfl, hR.out⟩
              case measure => simp [intOf]; omega
          · obtain rfl : n = b.length := by omega
            have hF : Hid (∀ h : (posK a a.length && posK b b.length) = true, a ≠ b → ab = true ∨ ba = true) := fun h h2 => by
              rw [Bool.and_eq_true] at h
              exact htot.out (posK_all h.1) (posK_all h.2) h2
            generalize (posK a a.length && posK b b.length) = fv at *
            clear htot
            have HS := Lib.hid hs
            have HR := Lib.hid hr
            have HT := Lib.hid ht
            have HB1 := Lib.hid hB1
            clear hs hr ht hB1 ha hb
            go_upto_region 14 with fail
            go_cut [95] (fun s95 wx => s95 = .bool false ∧ Hid (Below w2.heap.size w2 wx))
            case first =>
              have hSA := (HA.out.below hR.out)
              have hSB := (HBb.out.below hR.out)
              have hS := Lib.hid (SameTerms_calls a b _ _ wr hSA hSB)
              clear hSA hSB
              cases fv
              · go_wp2_with fail
                go_meet
                case rel => exact ⟨rfl, hR.out⟩
              · by_cases heq : a = b
                · rw [decide_eq_true heq] at hS
                  clear heq
                  go_wp2_with fail
                  refine hS.out.mono ?_
                  rintro e w' ⟨rfl, nd, rfl⟩
                  go_wp2_with fail
                  go_meet
                  case rel => exact ⟨rfl, ext_trans hR.out (below_drewN _ _ nd)⟩
                · rw [decide_eq_false heq] at hS
                  have ho := Lib.hid (hF.out rfl heq)
                  clear heq
                  cases ab
                  · have hba : ba = true := by rcases ho.out with h | h; cases h; exact h
                    subst hba
                    go_wp2_with fail
                    refine hS.out.mono ?_
                    rintro e w' ⟨rfl, nd, rfl⟩
                    go_wp2_with fail
                    go_meet
                    case rel => exact ⟨rfl, ext_trans hR.out (below_drewN _ _ nd)⟩
                  · go_wp2_with fail
                    refine hS.out.mono ?_
                    rintro e w' ⟨rfl, nd, rfl⟩
                    go_wp2_with fail
                    go_meet
                    case rel => exact ⟨rfl, ext_trans hR.out (below_drewN _ _ nd)⟩
            case rest =>
              obtain ⟨rfl, hcut⟩ := hcut
              have hB1 := ext_trans HB1.out hcut.out
              have ha := HA.out.below hcut.out
              have hb := HBb.out.below hcut.out
              have hs := HS.out.below TermR.ok hcut.out
              have hr := HR.out.below hcut.out
              have ht := HT.out.below hcut.out
              clear hF hR1 hR
              go_wp2_with fail
              go_wp2_with fail
              refine (Apply_calls s a _ _ wc hs ha).mono ?_
              rintro e w3 ⟨x, rfl, hx, hB3⟩
              replace ha := ha.below hB3
              replace hb := hb.below hB3
              replace hs := hs.below TermR.ok hB3
              replace hr := hr.below hB3
              replace ht := ht.below hB3
              replace hB1 := ext_trans hB1 hB3
              clear hB3
              replace hx := hx.any
              go_wp2_with fail
              refine (Apply_calls s b _ _ w3 hs hb).mono ?_
              rintro e w4 ⟨y, rfl, hy, hB4⟩
              replace ha := ha.below hB4
              replace hb := hb.below hB4
              replace hs := hs.below TermR.ok hB4
              replace hr := hr.below hB4
              replace ht := ht.below hB4
              replace hx := hx.below hB4
              replace hB1 := ext_trans hB1 hB4
              clear hB4
              replace hy := hy.any
              have HX := Lib.hid (And.intro hx hy)
              have HA4 := Lib.hid ha
              have HB4 := Lib.hid hb
              have HR4 := Lib.hid hr
              have HT4 := Lib.hid ht
              have HB14 := Lib.hid hB1
              clear hx hy ha hb hr ht hs hB1
              go_upto_region 18 with fail
              go_cut [116] (fun s116 wx => ∃ cv : Bool, s116 = .bool cv ∧ wx = w4 ∧ Hid (cv = true → ab = true ∧ applyE s a = 0 ∧ applyE s b = 0))
              case first =>
                cases ab
                · go_wp2_with fail
                  go_meet
                  case rel => exact ⟨false, rfl, rfl, fun h => by cases h⟩
                · by_cases g1 : applyE s a = 0
                  · by_cases g2 : applyE s b = 0
                    · have hG := Lib.hid (And.intro g1 g2)
                      have h1 : (applyE s a == 0) = true := by simpa using g1
                      have h2 : (applyE s b == 0) = true := by simpa using g2
                      clear g1 g2
                      go_wp2_with fail
                      go_meet
                      case rel => exact ⟨true, rfl, rfl, fun _ => ⟨by trivial, hG.out.1, hG.out.2⟩⟩
                    · have h1 : (applyE s a == 0) = true := by simpa using g1
                      have h' : (applyE s b == 0) = false := by simpa using g2
                      clear g1 g2
                      go_wp2_with fail
                      go_meet
                      case rel => exact ⟨false, rfl, rfl, fun h => by cases h⟩
                  · have h' : (applyE s a == 0) = false := by simpa using g1
                    clear g1
                    go_wp2_with fail
                    go_meet
                    case rel => exact ⟨false, rfl, rfl, fun h => by cases h⟩
              case rest =>
               obtain ⟨cv, rfl, rfl, hcv⟩ := hcut
               go_upto_if 116 with fail
               go_cut [12] (fun s12 wx => Hid (Below wc.heap.size wc wx))
               case first =>
                cases cv
                · go_wp2_with fail
                  go_meet
                  case rel => exact .refl _ _
                · obtain ⟨c1, c2, c3⟩ := hcv.out rfl
                  have hI := Lib.hid (hins.out c1 c2 c3)
                  clear c1 c2 c3
                  go_wp2_with fail
                  refine (Above_calls r (applyT s a) (applyT s b) _ _ _ wc HR4.out HX.out.1 HX.out.2).mono ?_
                  rintro e w5 ⟨rfl, hB5⟩
                  rw [hI.out.1, hI.out.2]
                  go_wp2_with fail
                  go_meet
                  case rel => exact hB5
               case rest =>
                 have hB1 := ext_trans HB14.out hcut.out
                 have ha := HA4.out.below hcut.out
                 have hb := HB4.out.below hcut.out
                 have hr := HR4.out.below hcut.out
                 have ht := HT4.out.below hcut.out
                 clear hcut
                 by_cases hct0 : chk t = 0
                 · have hct := Lib.hid hct0
                   have hne : 0 < t.length := by have := ne_of_chk hct0; cases t with | nil => exact absurd rfl this | cons => simp
                   have hl30 := len_of_chk hct0
                   have hlen0 : ((t.length : Int) == 0) = false := by rw [beq_eq_false_iff_ne]; omega
                   have hAt : Hid (∀ at0, at0 = chs k t.length → 0 ≤ at0 ∧ at0 < t.length) := fun at0 h => by rw [h]; exact chs_lt (by omega)
                   have hck := Lib.hid fun W => choose_calls k t.length (by omega) hk1 hk2 W
                   clear hct0
                   go_wp2_with fail
                   refine (pure_below (Check_calls t _ wc ht)).mono ?_
                   rintro e w6 ⟨rfl, hB6⟩
                   rw [hct.out]
                   replace ha := ha.below hB6
                   replace hb := hb.below hB6
                   replace hr := hr.below hB6
                   replace ht := ht.below hB6
                   replace hB1 := ext_trans hB1 hB6
                   clear hB6
                   go_wp2_with fail
                   refine (pure_below (hck.out w6)).mono ?_
                   rintro e w7 ⟨rfl, hB7⟩
                   replace ha := ha.below hB7
                   replace hb := hb.below hB7
                   replace hr := hr.below hB7
                   replace ht := ht.below hB7
                   replace hB1 := ext_trans hB1 hB7
                   clear hB7
                   obtain ⟨hat1, hat2⟩ := hAt.out _ rfl
                   clear hAt
                   generalize chs k t.length = at0 at *
                   obtain ⟨n, rfl⟩ : ∃ n : Nat, at0 = n := ⟨at0.toNat, by omega⟩
                   go_wp2_with fail
                   refine (Put_calls t a _ _ n w7 ht ha).mono ?_
                   rintro e w8 ⟨p, rfl, hp, hB8⟩
                   replace ha := ha.below hB8
                   replace hb := hb.below hB8
                   replace hr := hr.below hB8
                   replace ht := ht.below hB8
                   replace hB1 := ext_trans hB1 hB8
                   clear hB8
                   replace hp := hp.any
                   obtain ⟨pa, pc, rfl⟩ := hp.isSlice
                   go_wp2_with fail
                   refine (pure_below (hck.out w8)).mono ?_
                   rintro e w9 ⟨rfl, hB9⟩
                   replace ha := ha.below hB9
                   replace hb := hb.below hB9
                   replace hr := hr.below hB9
                   replace ht := ht.below hB9
                   replace hp := hp.below hB9
                   replace hB1 := ext_trans hB1 hB9
                   clear hB9
                   go_wp2_with fail
                   refine (Put_calls t b _ _ n w9 ht hb).mono ?_
                   rintro e w10 ⟨q, rfl, hq, hB10⟩
                   replace ha := ha.below hB10
                   replace hb := hb.below hB10
                   replace hr := hr.below hB10
                   replace ht := ht.below hB10
                   replace hp := hp.below hB10
                   replace hB1 := ext_trans hB1 hB10
                   clear hB10
                   replace hq := hq.any
                   obtain ⟨qa, qc, rfl⟩ := hq.isSlice
                   by_cases g1 : putE t n a = 0
                   · by_cases g2 : putE t n b = 0
                     · cases ab
                       · rw [g1, g2]
                         clear g1 g2
                         go_wp2_with fail
                         refine (orderBegun_calls w10).mono ?_
                         rintro e w11 ⟨rfl, hB11⟩
                         go_wp2_with fail
                         go_ret
                         exact ⟨rfl, ext_trans hB1 hB11⟩
                       · have p1 := put_good hct.out (by omega) g1
                         have p2 := put_good hct.out (by omega) g2
                         have q1 := (putE_ok hct.out p1.1 (by omega : n < t.length) p1.2).2
                         have q2 := (putE_ok hct.out p2.1 (by omega : n < t.length) p2.2).2
                         have hI0 := hput.out rfl hct.out n (by omega) p1.2 p2.2
                         rw [← q1, ← q2] at hI0
                         have hI := Lib.hid hI0
                         clear hI0
                         rw [g1, g2]
                         clear g1 g2 q1 q2 p1 p2
                         go_wp2_with fail
                         refine (Above_calls r (putT t n a) (putT t n b) _ _ _ w10 hr hp hq).mono ?_
                         rintro e w11 ⟨rfl, hB11⟩
                         rw [hI.out.1, hI.out.2]
                         replace hB1 := ext_trans hB1 hB11
                         clear hB11
                         go_wp2_with fail
                         refine (orderBegun_calls w11).mono ?_
                         rintro e w12 ⟨rfl, hB12⟩
                         go_wp2_with fail
                         go_ret
                         exact ⟨rfl, ext_trans hB1 hB12⟩
                     · have h' : (putE t n b != 0) = true := by simpa using g2
                       rw [g1]
                       clear g1 g2
                       go_wp2_with fail
                       refine (orderBegun_calls w10).mono ?_
                       rintro e w11 ⟨rfl, hB11⟩
                       go_wp2_with fail
                       go_ret
                       exact ⟨rfl, ext_trans hB1 hB11⟩
                   · have h' : (putE t n a != 0) = true := by simpa using g1
                     clear g1
                     go_wp2_with fail
                     refine (orderBegun_calls w10).mono ?_
                     rintro e w11 ⟨rfl, hB11⟩
                     go_wp2_with fail
                     go_ret
                     exact ⟨rfl, ext_trans hB1 hB11⟩
                 · have h' : (chk t != 0) = true := by simpa using hct0
                   clear hct0
                   go_wp2_with fail
                   refine (pure_below (Check_calls t _ wc ht)).mono ?_
                   rintro e w6 ⟨rfl, hB6⟩
                   replace hB1 := ext_trans hB1 hB6
                   clear hB6
                   go_wp2_with fail
                   refine (orderBegun_calls w6).mono ?_
                   rintro e w7 ⟨rfl, hB7⟩
                   go_wp2_with fail
                   go_ret
                   exact ⟨rfl, ext_trans hB1 hB7⟩
  · have h' : (aboveE r a b != 0) = true := by simpa using he
    clear he
    go_enter Try.func20, Try.ntmps20
    go_wp2_with fail
    refine (Above_calls r a b _ _ _ w hr ha hb).mono ?_
    rintro e w1 ⟨rfl, hB1⟩
    replace hr := hr.below hB1
    replace ha := ha.below hB1
    replace hb := hb.below hB1
    replace hs := hs.below TermR.ok hB1
    replace ht := ht.below hB1
    go_wp2_with fail
    refine (Above_calls r b a _ _ _ w1 hr hb ha).mono ?_
    rintro e w2 ⟨rfl, hB2⟩
    replace hr := hr.below hB2
    replace ha := ha.below hB2
    replace hb := hb.below hB2
    replace hs := hs.below TermR.ok hB2
    replace ht := ht.below hB2
    replace hB1 := ext_trans hB1 hB2
    clear hB2
    go_wp2_with fail
    refine (orderBegun_calls w2).mono ?_
    rintro e w3 ⟨rfl, hB3⟩
    clear hr ha hb hs ht
    replace hB1 := ext_trans hB1 hB3
    clear hB3
    go_wp2_with fail
    go_ret
    exact ⟨rfl, hB1⟩

end Go.Proofs.Ytepddehodmljeaa
