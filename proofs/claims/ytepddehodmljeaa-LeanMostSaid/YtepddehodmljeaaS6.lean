/- Walks: symMerge: leans change places. -/
import Derived.Deep.DeepCutAuto
import Derived.Outline
import Derived.Test.YtepddehodmljeaaS5
namespace Go.Proofs.Ytepddehodmljeaa
open Go.Shelf Go.RowKit Go.Lib Go.Sort
variable {P : Program} {α : Type} [Inhabited α] {enc : α → List Value} {k : Nat} {w0 : World} {blk off cap : Nat} {d0 : Array α}

set_option maxHeartbeats 8000000 in
set_option maxRecDepth 1000000 in
theorem symMergeC_calls (T : SP P k) (F1 : P.funcs[221]? = some Try.f221) (F2 : P.funcs[217]? = some Try.f217) (F : P.funcs[210]? = some Try.f210) (cf : α → α → Int) (g : Nat) (eg : ∀ args w, (callFunc g args).run P w = .ok (.enter g args) w) (hcmp : CmpLays P g #[] enc k cf blk off d0.size w0)
    (R : RowK enc k w0 blk off d0) (d : Array α) (hs : d0.size = d.size) (a m b : Nat) (w : World) (S : SWK enc k w0 blk off d w) (h1 : a < m) (h2 : m < b) (hb : b ≤ d.size) (hsz : d.size ≤ 1000000) (h3 : m - a ≠ 1) (h4 : b - m ≠ 1)
    (ih : ∀ (a' m' b' : Nat) (dk : Array α) (W : World), b' - a' < b - a → a' < m' → m' < b' → b' ≤ b → dk.size = d.size → SWK enc k w0 blk off dk W →
      Calls P 210 #[.slice (some ⟨blk, off, none⟩) d.size cap, .int .i64 a', .int .i64 m', .int .i64 b', .func (.func g) #[] #[]] W fun e w' => e = .returned (.tuple #[]) ∧ ∃ d', Prm dk d' ∧ SWK enc k w0 blk off d' w') :
    Calls P 210 #[.slice (some ⟨blk, off, none⟩) d.size cap, .int .i64 a, .int .i64 m, .int .i64 b, .func (.func g) #[] #[]] w fun e w' => e = .returned (.tuple #[]) ∧ ∃ d', Prm d d' ∧ SWK enc k w0 blk off d' w' := by
  have mixed := T.mixed; have t0 := T.t0; have a0 := T.a0; have z0 := T.z0; have v0 := T.v0; have t3 := T.t3; have a3 := T.a3; have z3 := T.z3; have v3 := T.v3; have t4 := T.t4; have a4 := T.a4; have z4 := T.z4; have v4 := T.v4; have t107 := T.t107; have a107 := T.a107; have z107 := T.z107; have v107 := T.v107; have t175 := T.t175; have a175 := T.a175; have z175 := T.z175; have v175 := T.v175; have t232 := T.t232; have a232 := T.a232; have z232 := T.z232; have aE := T.aE; have zE := T.zE
  have e210 : ∀ args w, (callFunc 210 args).run P w = .ok (.enter 210 args) w := enters_of F (by kernel_rfl) rfl
  have e217 : ∀ args w, (callFunc 217 args).run P w = .ok (.enter 217 args) w := enters_of F2 (by kernel_rfl) rfl
  have HC : Aside _ := hcmp
  have S0 : Aside (SWK enc k w0 blk off d w) := S
  have HI : Aside _ := ih
  have HR : Aside (∀ (a' m' b' : Nat) (dk : Array α) (W : World), a' < m' → m' < b' → b' ≤ d.size → dk.size = d.size → SWK enc k w0 blk off dk W →
      Calls P 217 #[.slice (some ⟨blk, off, none⟩) d.size cap, .int .i64 a', .int .i64 m', .int .i64 b', .func (.func g) #[] #[]] W fun e w' => e = .returned (.tuple #[]) ∧ ∃ d', Prm dk d' ∧ SWK enc k w0 blk off d' w') := by
    intro a' m' b' dk W g1 g2 g3 g4 hS
    have := rotate_calls (cap := cap) T F1 F2 (.func (.func g) #[] #[]) R dk (by omega) a' m' b' W hS g1 g2 (by omega) (by omega)
    rwa [g4] at this
  have hmab : ((m : Int) - (a : Int) == 1) = false := by rw [beq_eq_false_iff_ne]; omega
  have hbmb : ((b : Int) - (m : Int) == 1) = false := by rw [beq_eq_false_iff_ne]; omega
  have hmne : ¬ (m : Int) - (a : Int) = 1 := by omega
  have hbne : ¬ (b : Int) - (m : Int) = 1 := by omega
  have wma : IntKind.i64.wrap ((m : Int) - (a : Int)) = (m : Int) - (a : Int) := by rw [IntKind.wrap_i64]; omega
  have wbm : IntKind.i64.wrap ((b : Int) - (m : Int)) = (b : Int) - (m : Int) := by rw [IntKind.wrap_i64]; omega
  have mhhz : (((a + b) / 2 : Nat) : Int) = (((a : Int) + (b : Int)) / 2) := (half_of a b).symm
  obtain ⟨mid, mhh⟩ : ∃ h, h = (a + b) / 2 := ⟨_, rfl⟩
  rw [← mhh] at mhhz
  have mhdiv : ((a : Int) + (b : Int)) / 2 = (mid : Int) := mhhz.symm
  have mwu : IntKind.u64.wrap ((a : Int) + (b : Int)) = (a : Int) + (b : Int) := by simp [IntKind.wrap, IntKind.bits, IntKind.signed]; omega
  have mwi : IntKind.i64.wrap ((a : Int) + (b : Int)) = (a : Int) + (b : Int) := by rw [IntKind.wrap_i64]; omega
  have hmid1 : a + b ≤ 2 * mid + 1 := by omega
  have hmid2 : 2 * mid ≤ a + b := by omega
  clear mhh mhhz
  have wn : IntKind.i64.wrap ((mid : Int) + (m : Int)) = (mid : Int) + (m : Int) := by rw [IntKind.wrap_i64]; omega
  have wnb : IntKind.i64.wrap ((mid : Int) + (m : Int) - (b : Int)) = (mid : Int) + (m : Int) - (b : Int) := by rw [IntKind.wrap_i64]; omega
  have wn1 : IntKind.i64.wrap ((mid : Int) + (m : Int) - 1) = (mid : Int) + (m : Int) - 1 := by rw [IntKind.wrap_i64]; omega
  clear S hcmp ih
  go_enter F, Try.ntmps210
  go_upto_if 140 with fail
  go_cut [20, 21] (fun s20 s21 wx => ∃ st r : Nat, s20 = .int .i64 st ∧ s21 = .int .i64 r ∧ a ≤ st ∧ mid + m ≤ st + b ∧ st ≤ r ∧ r ≤ mid + m ∧ r ≤ b ∧ Aside (SWK enc k w0 blk off d wx))
  case first =>
    by_cases hmm : mid < m
    · have hmz : (mid : Int) < (m : Int) := by omega
      have hnb : (mid : Int) + (m : Int) - (b : Int) = ((mid + m - b : Nat) : Int) := by omega
      go_wp2
      go_meet
      case rel => exact ⟨mid + m - b, mid, rfl, rfl, by omega, by omega, by omega, by omega, by omega, S0⟩
    · have hmz : ¬ (mid : Int) < (m : Int) := by omega
      go_wp2
      go_meet
      case rel => exact ⟨a, m, rfl, rfl, by omega, by omega, by omega, by omega, by omega, S0⟩
  case rest =>
    obtain ⟨st0, r0, rfl, rfl, c1, c2, c3, c4, c5, SC⟩ := hcut
    clear S0
    go_wp2
    go_loopg [20, 21] (b + b) (fun kx s20 s21 wr => ∃ (st r : Nat), s20 = .int .i64 st ∧ s21 = .int .i64 r ∧ a ≤ st ∧ mid + m ≤ st + b ∧ st ≤ r ∧ r ≤ mid + m ∧ r ≤ b ∧ r - st ≤ kx ∧ Aside (SWK enc k w0 blk off d wr))
    case atStart => exact ⟨st0, r0, rfl, rfl, c1, c2, c3, c4, c5, by omega, SC⟩
    case round =>
      clear SC c1 c2 c3 c4 c5
      obtain ⟨st, r, rfl, rfl, c1, c2, c3, c4, c5, hkx, S1⟩ := hrel
      by_cases hlt : st < r
      · have hltz : (st : Int) < (r : Int) := by omega
        have hhz : (((st + r) / 2 : Nat) : Int) = (((st : Int) + (r : Int)) / 2) := (half_of st r).symm
        obtain ⟨h, hh⟩ : ∃ h, h = (st + r) / 2 := ⟨_, rfl⟩
        rw [← hh] at hhz
        have hdiv : ((st : Int) + (r : Int)) / 2 = (h : Int) := hhz.symm
        have wu : IntKind.u64.wrap ((st : Int) + (r : Int)) = (st : Int) + (r : Int) := by simp [IntKind.wrap, IntKind.bits, IntKind.signed]; omega
        have wi : IntKind.i64.wrap ((st : Int) + (r : Int)) = (st : Int) + (r : Int) := by rw [IntKind.wrap_i64]; omega
        have hlo : st ≤ h := by omega
        have hhi : h < r := by omega
        have hple : (h : Int) ≤ (mid : Int) + (m : Int) - 1 := by omega
        clear hhz hh
        have e1 : ((mid : Int) + (m : Int) - 1 - (h : Int)).toNat = mid + m - 1 - h := by omega
        have p1 : (0 : Int) ≤ (mid : Int) + (m : Int) - 1 - (h : Int) := by omega
        have b1 : (mid : Int) + (m : Int) - 1 - (h : Int) < (d.size : Int) := by omega
        have r1 : IntKind.i64.wrap ((mid : Int) + (m : Int) - 1 - (h : Int)) = (mid : Int) + (m : Int) - 1 - (h : Int) := by rw [IntKind.wrap_i64]; omega
        have e2 : ((h : Int)).toNat = h := by omega
        have p2 : (0 : Int) ≤ (h : Int) := by omega
        have b2 : (h : Int) < (d.size : Int) := by omega
        have r2 : IntKind.i64.wrap ((h : Int)) = (h : Int) := by rw [IntKind.wrap_i64]; omega
        obtain ⟨x, hx⟩ : ∃ x, x = d[mid + m - 1 - h]! := ⟨_, rfl⟩
        obtain ⟨y, hy⟩ : ∃ y, y = d[h]! := ⟨_, rfl⟩
        have la := S1.out.ld R hs.symm P (mid + m - 1 - h) (by omega)
        have lb := S1.out.ld R hs.symm P (h) (by omega)
        rw [← hx] at la
        rw [← hy] at lb
        have hc := S1.out.cmp HC.out hs.symm x y
        clear hx hy
        by_cases hlv : cf x y < 0
        · have hdl : decide (cf x y < 0) = true := decide_eq_true hlv
          go_wp2_with fail
          go_quiet_grown (first | (go_at_fn g; refine Calls.grown_of (hc _ _)))
          have S2 : Aside (SWK enc k w0 blk off d (grow (wr.drewN nq) osq)) := S1.out.grown nq osq
          clear la lb hc S1
          generalize grow (wr.drewN nq) osq = w2 at S2 ⊢
          clear nq osq
          go_wp2
          go_roundg (h - st)
          case measure => omega
          case rel => exact ⟨st, h, rfl, rfl, c1, c2, by omega, by omega, by omega, Nat.le_refl _, S2.out⟩
        · have hdl : decide (cf x y < 0) = false := decide_eq_false hlv
          go_wp2_with fail
          go_quiet_grown (first | (go_at_fn g; refine Calls.grown_of (hc _ _)))
          have S2 : Aside (SWK enc k w0 blk off d (grow (wr.drewN nq) osq)) := S1.out.grown nq osq
          clear la lb hc S1
          generalize grow (wr.drewN nq) osq = w2 at S2 ⊢
          clear nq osq
          go_wp2
          go_roundg (r - (h + 1))
          case measure => omega
          case rel => exact ⟨h + 1, r, by go_num, rfl, by omega, by omega, by omega, by omega, by omega, Nat.le_refl _, S2.out⟩
      · have hltz : ¬ (st : Int) < (r : Int) := by omega
        obtain ⟨en, hen'⟩ : ∃ en, en = mid + m - st := ⟨_, rfl⟩
        have hen : (mid : Int) + (m : Int) - (st : Int) = (en : Int) := by omega
        have henb : en ≤ b := by omega
        have wen : IntKind.i64.wrap ((mid : Int) + (m : Int) - (st : Int)) = (mid : Int) + (m : Int) - (st : Int) := by rw [IntKind.wrap_i64]; omega
        clear hen'
        go_upto_region 39 with fail
        go_cut [185] (fun s185 wx => s185 = .bool (decide (st < m ∧ m < en)) ∧ Aside (SWK enc k w0 blk off d wx))
        case first =>
          by_cases q1 : st < m
          · have q1z : (st : Int) < (m : Int) := by omega
            by_cases q2 : m < en
            · have q2z : (m : Int) < (en : Int) := by omega
              go_wp2
              go_meet
              case rel => exact ⟨by rw [decide_eq_true ⟨q1, q2⟩], S1.out⟩
            · have q2z : ¬ (m : Int) < (en : Int) := by omega
              go_wp2
              go_meet
              case rel => exact ⟨by rw [decide_eq_false (fun h => q2 h.2)], S1.out⟩
          · have q1z : ¬ (st : Int) < (m : Int) := by omega
            go_wp2
            go_meet
            case rel => exact ⟨by rw [decide_eq_false (fun h => q1 h.1)], S1.out⟩
        case rest =>
          obtain ⟨rfl, S1⟩ := hcut
          go_upto_if 185 with fail
          go_cut [185] (fun s185 wx => ∃ d1 : Array α, s185 = s185 ∧ d1.size = d.size ∧ Aside (Prm d d1) ∧ Aside (SWK enc k w0 blk off d1 wx))
          case first =>
            by_cases q : st < m ∧ m < en
            · have qd : decide (st < m ∧ m < en) = true := decide_eq_true q
              have hc := HR.out st m en d _ q.1 q.2 (by omega) rfl S1.out
              go_wp2_with (go_at_fn 217; refine hc.mono ?_; rintro e w' ⟨rfl, d', hp, hS⟩; have HP2 : Aside (Prm d d') := hp; have HS2 : Aside (SWK enc k w0 blk off d' w') := hS; clear hp hS)
              go_meet
              case rel => exact ⟨d', rfl, HP2.out.size, HP2, HS2⟩
            · have qd : decide (st < m ∧ m < en) = false := decide_eq_false q
              go_wp2
              go_meet
              case rel => exact ⟨d, rfl, rfl, Prm.refl d, S1.out⟩
          case rest =>
            clear S1
            obtain ⟨d1, -, hz1, HP1, S1⟩ := hcut
            by_cases x1 : a < st
            · have x1z : (a : Int) < (st : Int) := by omega
              by_cases x2 : st < mid
              · have x2z : (st : Int) < (mid : Int) := by omega
                by_cases y1 : mid < en
                · have y1z : (mid : Int) < (en : Int) := by omega
                  by_cases y2 : en < b
                  · have y2z : (en : Int) < (b : Int) := by omega
                    have hc2 := HI.out a st mid d1 _ (by omega) x1 x2 (by omega) hz1 S1.out
                    have hc3 := fun (d2 : Array α) (hz : d2.size = d.size) (W : World) (hS : SWK enc k w0 blk off d2 W) => HI.out mid en b d2 W (by omega) y1 y2 (Nat.le_refl _) hz hS
                    have HC3 := Lib.hid hc3
                    clear hc3
                    go_wp2_with (go_at_fn 210; refine hc2.mono ?_; rintro e w2 ⟨rfl, d2, hp, hS⟩; have HP2 : Aside (Prm d d2) := HP1.out.trans hp; have hc4 := HC3.out d2 (hp.size.trans hz1) w2 hS; clear hp hS hc2; go_wp2_with (go_at_fn 210; refine hc4.mono ?_; rintro e w3 ⟨rfl, d3, hp3, hS3⟩; have HP3 : Aside (Prm d d3) := HP2.out.trans hp3; have HS3 : Aside (SWK enc k w0 blk off d3 w3) := hS3; clear hp3 hS3))
                    go_end0
                    exact ⟨rfl, d3, HP3.out, HS3.out⟩
                  · have y2z : ¬ (en : Int) < (b : Int) := by omega
                    have hc2 := HI.out a st mid d1 _ (by omega) x1 x2 (by omega) hz1 S1.out
                    go_wp2_with (go_at_fn 210; refine hc2.mono ?_; rintro e w2 ⟨rfl, d2, hp, hS⟩; have HP2 : Aside (Prm d d2) := HP1.out.trans hp; have HS2 : Aside (SWK enc k w0 blk off d2 w2) := hS; clear hp hS)
                    go_end0
                    exact ⟨rfl, d2, HP2.out, HS2.out⟩
                · have y1z : ¬ (mid : Int) < (en : Int) := by omega
                  have hc2 := HI.out a st mid d1 _ (by omega) x1 x2 (by omega) hz1 S1.out
                  go_wp2_with (go_at_fn 210; refine hc2.mono ?_; rintro e w2 ⟨rfl, d2, hp, hS⟩; have HP2 : Aside (Prm d d2) := HP1.out.trans hp; have HS2 : Aside (SWK enc k w0 blk off d2 w2) := hS; clear hp hS)
                  go_end0
                  exact ⟨rfl, d2, HP2.out, HS2.out⟩
              · have x2z : ¬ (st : Int) < (mid : Int) := by omega
                by_cases y1 : mid < en
                · have y1z : (mid : Int) < (en : Int) := by omega
                  by_cases y2 : en < b
                  · have y2z : (en : Int) < (b : Int) := by omega
                    have hc3 := HI.out mid en b d1 _ (by omega) y1 y2 (Nat.le_refl _) hz1 S1.out
                    go_wp2_with (go_at_fn 210; refine hc3.mono ?_; rintro e w2 ⟨rfl, d2, hp, hS⟩; have HP2 : Aside (Prm d d2) := HP1.out.trans hp; have HS2 : Aside (SWK enc k w0 blk off d2 w2) := hS; clear hp hS)
                    go_end0
                    exact ⟨rfl, d2, HP2.out, HS2.out⟩
                  · have y2z : ¬ (en : Int) < (b : Int) := by omega
                    go_wp2
                    go_end0
                    exact ⟨rfl, d1, HP1.out, S1.out⟩
                · have y1z : ¬ (mid : Int) < (en : Int) := by omega
                  go_wp2
                  go_end0
                  exact ⟨rfl, d1, HP1.out, S1.out⟩
            · have x1z : ¬ (a : Int) < (st : Int) := by omega
              by_cases y1 : mid < en
              · have y1z : (mid : Int) < (en : Int) := by omega
                by_cases y2 : en < b
                · have y2z : (en : Int) < (b : Int) := by omega
                  have hc3 := HI.out mid en b d1 _ (by omega) y1 y2 (Nat.le_refl _) hz1 S1.out
                  go_wp2_with (go_at_fn 210; refine hc3.mono ?_; rintro e w2 ⟨rfl, d2, hp, hS⟩; have HP2 : Aside (Prm d d2) := HP1.out.trans hp; have HS2 : Aside (SWK enc k w0 blk off d2 w2) := hS; clear hp hS)
                  go_end0
                  exact ⟨rfl, d2, HP2.out, HS2.out⟩
                · have y2z : ¬ (en : Int) < (b : Int) := by omega
                  go_wp2
                  go_end0
                  exact ⟨rfl, d1, HP1.out, S1.out⟩
              · have y1z : ¬ (mid : Int) < (en : Int) := by omega
                go_wp2
                go_end0
                exact ⟨rfl, d1, HP1.out, S1.out⟩

end Go.Proofs.Ytepddehodmljeaa
