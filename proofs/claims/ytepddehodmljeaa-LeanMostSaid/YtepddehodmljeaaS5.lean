/- Walks: symMerge: leans change places. -/
import Derived.Test.YtepddehodmljeaaS4
namespace Go.Proofs.Ytepddehodmljeaa
open Go.Shelf Go.RowKit Go.Lib Go.Sort
variable {P : Program} {α : Type} [Inhabited α] {enc : α → List Value} {k : Nat} {w0 : World} {blk off cap : Nat} {d0 : Array α}

theorem half_of (i j : Nat) : ((i : Int) + (j : Int)) / 2 = (((i + j) / 2 : Nat) : Int) := by omega

set_option maxHeartbeats 8000000 in
set_option maxRecDepth 1000000 in
theorem symMergeA_calls (T : SP P k) (F : P.funcs[210]? = some Try.f210) (cf : α → α → Int) (g : Nat) (eg : ∀ args w, (callFunc g args).run P w = .ok (.enter g args) w) (hcmp : CmpLays P g #[] enc k cf blk off d0.size w0)
    (R : RowK enc k w0 blk off d0) (d : Array α) (hs : d0.size = d.size) (a m b : Nat) (w : World) (S : SWK enc k w0 blk off d w) (h1 : a < m) (h2 : m < b) (hb : b ≤ d.size) (hsz : d.size ≤ 1000000) (h3 : m - a = 1) :
    Calls P 210 #[.slice (some ⟨blk, off, none⟩) d.size cap, .int .i64 a, .int .i64 m, .int .i64 b, .func (.func g) #[] #[]] w fun e w' => e = .returned (.tuple #[]) ∧ ∃ d', Prm d d' ∧ SWK enc k w0 blk off d' w' := by
  have mixed := T.mixed; have t0 := T.t0; have a0 := T.a0; have z0 := T.z0; have v0 := T.v0; have t3 := T.t3; have a3 := T.a3; have z3 := T.z3; have v3 := T.v3; have t4 := T.t4; have a4 := T.a4; have z4 := T.z4; have v4 := T.v4; have t107 := T.t107; have a107 := T.a107; have z107 := T.z107; have v107 := T.v107; have t175 := T.t175; have a175 := T.a175; have z175 := T.z175; have v175 := T.v175; have t232 := T.t232; have a232 := T.a232; have z232 := T.z232; have aE := T.aE; have zE := T.zE
  have HC : Aside _ := hcmp
  have S0 : Aside (SWK enc k w0 blk off d w) := S
  have hma : (m : Int) - (a : Int) = 1 := by omega
  have wma : IntKind.i64.wrap ((m : Int) - (a : Int)) = (m : Int) - (a : Int) := by rw [IntKind.wrap_i64]; omega
  clear S hcmp
  go_enter F, Try.ntmps210
  go_wp2
  go_loopg [10, 11] (b + b) (fun kx s10 s11 wr => ∃ (i j : Nat), s10 = .int .i64 i ∧ s11 = .int .i64 j ∧ m ≤ i ∧ i ≤ j ∧ j ≤ b ∧ j - i ≤ kx ∧ Aside (SWK enc k w0 blk off d wr))
  case atStart => exact ⟨m, b, rfl, rfl, Nat.le_refl _, by omega, Nat.le_refl _, by omega, S0⟩
  case round =>
    clear S0
    obtain ⟨i, j, rfl, rfl, hmi, hij, hjb, hkx, S1⟩ := hrel
    by_cases hlt : i < j
    · have hltz : (i : Int) < (j : Int) := by omega
      have hhz : (((i + j) / 2 : Nat) : Int) = (((i : Int) + (j : Int)) / 2) := (half_of i j).symm
      obtain ⟨h, hh⟩ : ∃ h, h = (i + j) / 2 := ⟨_, rfl⟩
      rw [← hh] at hhz
      have hdiv : ((i : Int) + (j : Int)) / 2 = (h : Int) := hhz.symm
      have wu : IntKind.u64.wrap ((i : Int) + (j : Int)) = (i : Int) + (j : Int) := by simp [IntKind.wrap, IntKind.bits, IntKind.signed]; omega
      have wi : IntKind.i64.wrap ((i : Int) + (j : Int)) = (i : Int) + (j : Int) := by rw [IntKind.wrap_i64]; omega
      have hlo : i ≤ h := by omega
      have hhi : h < j := by omega
      clear hhz hh
      have e1 : ((h : Int)).toNat = h := by omega
      have p1 : (0 : Int) ≤ (h : Int) := by omega
      have b1 : (h : Int) < (d.size : Int) := by omega
      have r1 : IntKind.i64.wrap ((h : Int)) = (h : Int) := by rw [IntKind.wrap_i64]; omega
      have e2 : ((a : Int)).toNat = a := by omega
      have p2 : (0 : Int) ≤ (a : Int) := by omega
      have b2 : (a : Int) < (d.size : Int) := by omega
      have r2 : IntKind.i64.wrap ((a : Int)) = (a : Int) := by rw [IntKind.wrap_i64]; omega
      obtain ⟨x, hx⟩ : ∃ x, x = d[h]! := ⟨_, rfl⟩
      obtain ⟨y, hy⟩ : ∃ y, y = d[a]! := ⟨_, rfl⟩
      have la := S1.out.ld R hs.symm P (h) (by omega)
      have lb := S1.out.ld R hs.symm P (a) (by omega)
      rw [← hx] at la
      rw [← hy] at lb
      have hc := S1.out.cmp HC.out hs.symm x y
      clear hx hy
      by_cases hlv : cf x y < 0
      · go_wp2_with fail
        go_quiet_grown (first | (go_at_fn g; refine Calls.grown_of (hc _ _)))
        have S2 : Aside (SWK enc k w0 blk off d (grow (wr.drewN nq) osq)) := S1.out.grown nq osq
        clear la lb hc S1
        generalize grow (wr.drewN nq) osq = w2 at S2 ⊢
        clear nq osq
        go_wp2
        go_roundg (j - (h + 1))
        case measure => omega
        case rel => exact ⟨h + 1, j, by go_num, rfl, by omega, by omega, hjb, Nat.le_refl _, S2.out⟩
      · go_wp2_with fail
        go_quiet_grown (first | (go_at_fn g; refine Calls.grown_of (hc _ _)))
        have S2 : Aside (SWK enc k w0 blk off d (grow (wr.drewN nq) osq)) := S1.out.grown nq osq
        clear la lb hc S1
        generalize grow (wr.drewN nq) osq = w2 at S2 ⊢
        clear nq osq
        go_wp2
        go_roundg (h - i)
        case measure => omega
        case rel => exact ⟨i, h, rfl, rfl, hmi, by omega, by omega, Nat.le_refl _, S2.out⟩
    · have hltz : ¬ (i : Int) < (j : Int) := by omega
      have wi1 : IntKind.i64.wrap ((i : Int) - 1) = (i : Int) - 1 := by rw [IntKind.wrap_i64]; omega
      go_wp2
      go_loopg [13] (b) (fun kx s13 wr => ∃ (q : Nat) (dk : Array α), s13 = .int .i64 q ∧ a ≤ q ∧ q + 1 ≤ i ∧ i - q ≤ kx ∧ dk.size = d.size ∧ Aside (Prm d dk) ∧ Aside (SWK enc k w0 blk off dk wr))
      case atStart => exact ⟨a, d, rfl, Nat.le_refl _, by omega, by omega, rfl, Prm.refl d, S1⟩
      case round =>
        clear S1
        obtain ⟨q, dk, rfl, haq, hqi, hkx2, hds, HP, S1⟩ := hrel
        by_cases hq : q + 1 < i
        · have hqz : (q : Int) < (i : Int) - 1 := by omega
          have hds0 : dk.size = d0.size := by omega
          have e1 : ((q : Int)).toNat = q := by omega
          have p1 : (0 : Int) ≤ (q : Int) := by omega
          have b1 : (q : Int) < (d.size : Int) := by omega
          have r1 : IntKind.i64.wrap ((q : Int)) = (q : Int) := by rw [IntKind.wrap_i64]; omega
          have e2 : ((q : Int) + 1).toNat = q + 1 := by omega
          have p2 : (0 : Int) ≤ (q : Int) + 1 := by omega
          have b2 : (q : Int) + 1 < (d.size : Int) := by omega
          have r2 : IntKind.i64.wrap ((q : Int) + 1) = (q : Int) + 1 := by rw [IntKind.wrap_i64]; omega
          have S3 : Aside (SWK enc k w0 blk off (swp dk (q) (q + 1)) ((wr.drew.setCells blk (off + (q) * k) (enc dk[q + 1]!)).setCells blk (off + (q + 1) * k) (enc dk[q]!))) := S1.out.swapped R (q) (q + 1) (by omega) (by omega)
          have HP2 : Aside (Prm d (swp dk (q) (q + 1))) := HP.out.trans (Prm.swp dk (by omega) (by omega))
          have HZ2 : Aside ((swp dk (q) (q + 1)).size = d.size) := by show _ = _; rw [size_swp]; exact hds
          have la := S1.out.ld1 R hds0 P (q) (by omega)
          have lb := S1.out.ld1 R hds0 P (q + 1) (by omega)
          have sa := S1.out.st1 R hds0 P (q) (by omega) dk[q + 1]!
          have sb := S1.out.st2 R hds0 P (q) (q + 1) (by omega) (by omega) dk[q + 1]! dk[q]!
          have na : (enc dk[q]!).length = k := R.hk _
          have nb : (enc dk[q + 1]!).length = k := R.hk _
          generalize enc dk[q]! = cI at S3 la sb na
          generalize enc dk[q + 1]! = cJ at S3 lb sa sb nb
          clear S1
          go_wp2_with fail
          go_big_region_o
          clear la lb sa sb
          generalize (wr.drew.setCells blk (off + (q) * k) cJ).setCells blk (off + (q + 1) * k) cI = w3 at S3 ⊢
          go_wp2
          go_roundg (i - (q + 1))
          case measure => omega
          case rel => exact ⟨q + 1, swp dk q (q + 1), by go_num, by omega, by omega, by omega, HZ2.out, HP2.out, S3.out⟩
        · have hqz : ¬ (q : Int) < (i : Int) - 1 := by omega
          go_wp2
          (try simp only [Exit.inBlock, Exit.then]); refine bodyPost_ret (results_none rfl _ _ _) rfl ?_
          exact ⟨rfl, dk, HP.out, S1.out⟩

set_option maxHeartbeats 8000000 in
set_option maxRecDepth 1000000 in
theorem symMergeB_calls (T : SP P k) (F : P.funcs[210]? = some Try.f210) (cf : α → α → Int) (g : Nat) (eg : ∀ args w, (callFunc g args).run P w = .ok (.enter g args) w) (hcmp : CmpLays P g #[] enc k cf blk off d0.size w0)
    (R : RowK enc k w0 blk off d0) (d : Array α) (hs : d0.size = d.size) (a m b : Nat) (w : World) (S : SWK enc k w0 blk off d w) (h1 : a < m) (h2 : m < b) (hb : b ≤ d.size) (hsz : d.size ≤ 1000000) (h3 : m - a ≠ 1) (h4 : b - m = 1) :
    Calls P 210 #[.slice (some ⟨blk, off, none⟩) d.size cap, .int .i64 a, .int .i64 m, .int .i64 b, .func (.func g) #[] #[]] w fun e w' => e = .returned (.tuple #[]) ∧ ∃ d', Prm d d' ∧ SWK enc k w0 blk off d' w' := by
  have mixed := T.mixed; have t0 := T.t0; have a0 := T.a0; have z0 := T.z0; have v0 := T.v0; have t3 := T.t3; have a3 := T.a3; have z3 := T.z3; have v3 := T.v3; have t4 := T.t4; have a4 := T.a4; have z4 := T.z4; have v4 := T.v4; have t107 := T.t107; have a107 := T.a107; have z107 := T.z107; have v107 := T.v107; have t175 := T.t175; have a175 := T.a175; have z175 := T.z175; have v175 := T.v175; have t232 := T.t232; have a232 := T.a232; have z232 := T.z232; have aE := T.aE; have zE := T.zE
  have HC : Aside _ := hcmp
  have S0 : Aside (SWK enc k w0 blk off d w) := S
  have hmab : ((m : Int) - (a : Int) == 1) = false := by rw [beq_eq_false_iff_ne]; omega
  have hmne : ¬ (m : Int) - (a : Int) = 1 := by omega
  have wma : IntKind.i64.wrap ((m : Int) - (a : Int)) = (m : Int) - (a : Int) := by rw [IntKind.wrap_i64]; omega
  have hbm : (b : Int) - (m : Int) = 1 := by omega
  have wbm : IntKind.i64.wrap ((b : Int) - (m : Int)) = (b : Int) - (m : Int) := by rw [IntKind.wrap_i64]; omega
  clear S hcmp
  go_enter F, Try.ntmps210
  go_wp2
  go_loopg [14, 15] (b + b) (fun kx s10 s11 wr => ∃ (i j : Nat), s10 = .int .i64 i ∧ s11 = .int .i64 j ∧ a ≤ i ∧ i ≤ j ∧ j ≤ m ∧ j - i ≤ kx ∧ Aside (SWK enc k w0 blk off d wr))
  case atStart => exact ⟨a, m, rfl, rfl, Nat.le_refl _, by omega, Nat.le_refl _, by omega, S0⟩
  case round =>
    clear S0
    obtain ⟨i, j, rfl, rfl, hmi, hij, hjb, hkx, S1⟩ := hrel
    by_cases hlt : i < j
    · have hltz : (i : Int) < (j : Int) := by omega
      have hhz : (((i + j) / 2 : Nat) : Int) = (((i : Int) + (j : Int)) / 2) := (half_of i j).symm
      obtain ⟨h, hh⟩ : ∃ h, h = (i + j) / 2 := ⟨_, rfl⟩
      rw [← hh] at hhz
      have hdiv : ((i : Int) + (j : Int)) / 2 = (h : Int) := hhz.symm
      have wu : IntKind.u64.wrap ((i : Int) + (j : Int)) = (i : Int) + (j : Int) := by simp [IntKind.wrap, IntKind.bits, IntKind.signed]; omega
      have wi : IntKind.i64.wrap ((i : Int) + (j : Int)) = (i : Int) + (j : Int) := by rw [IntKind.wrap_i64]; omega
      have hlo : i ≤ h := by omega
      have hhi : h < j := by omega
      clear hhz hh
      have e1 : ((m : Int)).toNat = m := by omega
      have p1 : (0 : Int) ≤ (m : Int) := by omega
      have b1 : (m : Int) < (d.size : Int) := by omega
      have r1 : IntKind.i64.wrap ((m : Int)) = (m : Int) := by rw [IntKind.wrap_i64]; omega
      have e2 : ((h : Int)).toNat = h := by omega
      have p2 : (0 : Int) ≤ (h : Int) := by omega
      have b2 : (h : Int) < (d.size : Int) := by omega
      have r2 : IntKind.i64.wrap ((h : Int)) = (h : Int) := by rw [IntKind.wrap_i64]; omega
      obtain ⟨x, hx⟩ : ∃ x, x = d[m]! := ⟨_, rfl⟩
      obtain ⟨y, hy⟩ : ∃ y, y = d[h]! := ⟨_, rfl⟩
      have la := S1.out.ld R hs.symm P (m) (by omega)
      have lb := S1.out.ld R hs.symm P (h) (by omega)
      rw [← hx] at la
      rw [← hy] at lb
      have hc := S1.out.cmp HC.out hs.symm x y
      clear hx hy
      by_cases hlv : cf x y < 0
      · have hdl : decide (cf x y < 0) = true := decide_eq_true hlv
        go_wp2_with fail
        go_quiet_grown (first | (go_at_fn g; refine Calls.grown_of (hc _ _)))
        have S2 : Aside (SWK enc k w0 blk off d (grow (wr.drewN nq) osq)) := S1.out.grown nq osq
        clear la lb hc S1
        generalize grow (wr.drewN nq) osq = w2 at S2 ⊢
        clear nq osq
        go_wp2
        go_roundg (h - i)
        case measure => omega
        case rel => exact ⟨i, h, rfl, rfl, hmi, by omega, by omega, Nat.le_refl _, S2.out⟩
      · have hdl : decide (cf x y < 0) = false := decide_eq_false hlv
        go_wp2_with fail
        go_quiet_grown (first | (go_at_fn g; refine Calls.grown_of (hc _ _)))
        have S2 : Aside (SWK enc k w0 blk off d (grow (wr.drewN nq) osq)) := S1.out.grown nq osq
        clear la lb hc S1
        generalize grow (wr.drewN nq) osq = w2 at S2 ⊢
        clear nq osq
        go_wp2
        go_roundg (j - (h + 1))
        case measure => omega
        case rel => exact ⟨h + 1, j, by go_num, rfl, by omega, by omega, hjb, Nat.le_refl _, S2.out⟩
    · have hltz : ¬ (i : Int) < (j : Int) := by omega
      go_wp2
      go_loopg [17] (b) (fun kx s17 wr => ∃ (q : Nat) (dk : Array α), s17 = .int .i64 q ∧ i ≤ q ∧ q ≤ m ∧ q ≤ kx ∧ dk.size = d.size ∧ Aside (Prm d dk) ∧ Aside (SWK enc k w0 blk off dk wr))
      case atStart => exact ⟨m, d, rfl, by omega, Nat.le_refl _, by omega, rfl, Prm.refl d, S1⟩
      case round =>
        clear S1
        obtain ⟨q, dk, rfl, haq, hqi, hkx2, hds, HP, S1⟩ := hrel
        by_cases hq : i < q
        · obtain ⟨q, rfl⟩ : ∃ p, q = p + 1 := ⟨q - 1, by omega⟩
          have hqz : (i : Int) < (q : Int) + 1 := by omega
          have hds0 : dk.size = d0.size := by omega
          have e1 : ((q : Int) + 1).toNat = q + 1 := by omega
          have p1 : (0 : Int) ≤ (q : Int) + 1 := by omega
          have b1 : (q : Int) + 1 < (d.size : Int) := by omega
          have r1 : IntKind.i64.wrap ((q : Int) + 1) = (q : Int) + 1 := by rw [IntKind.wrap_i64]; omega
          have e2 : ((q : Int)).toNat = q := by omega
          have p2 : (0 : Int) ≤ (q : Int) := by omega
          have b2 : (q : Int) < (d.size : Int) := by omega
          have r2 : IntKind.i64.wrap ((q : Int)) = (q : Int) := by rw [IntKind.wrap_i64]; omega
          have S3 : Aside (SWK enc k w0 blk off (swp dk (q + 1) (q)) ((wr.drew.setCells blk (off + (q + 1) * k) (enc dk[q]!)).setCells blk (off + (q) * k) (enc dk[q + 1]!))) := S1.out.swapped R (q + 1) (q) (by omega) (by omega)
          have HP2 : Aside (Prm d (swp dk (q + 1) (q))) := HP.out.trans (Prm.swp dk (by omega) (by omega))
          have HZ2 : Aside ((swp dk (q + 1) (q)).size = d.size) := by show _ = _; rw [size_swp]; exact hds
          have la := S1.out.ld1 R hds0 P (q + 1) (by omega)
          have lb := S1.out.ld1 R hds0 P (q) (by omega)
          have sa := S1.out.st1 R hds0 P (q + 1) (by omega) dk[q]!
          have sb := S1.out.st2 R hds0 P (q + 1) (q) (by omega) (by omega) dk[q]! dk[q + 1]!
          have na : (enc dk[q + 1]!).length = k := R.hk _
          have nb : (enc dk[q]!).length = k := R.hk _
          generalize enc dk[q + 1]! = cI at S3 la sb na
          generalize enc dk[q]! = cJ at S3 lb sa sb nb
          clear S1
          go_wp2_with fail
          go_big_region_o
          clear la lb sa sb
          generalize (wr.drew.setCells blk (off + (q + 1) * k) cJ).setCells blk (off + (q) * k) cI = w3 at S3 ⊢
          go_wp2
          go_roundg q
          case measure => omega
          case rel => exact ⟨q, swp dk (q + 1) q, by first | rfl | go_num, by omega, by omega, Nat.le_refl _, HZ2.out, HP2.out, S3.out⟩
        · have hqz : ¬ (i : Int) < (q : Int) := by omega
          go_wp2
          (try simp only [Exit.inBlock, Exit.then]); refine bodyPost_ret (results_none rfl _ _ _) rfl ?_
          exact ⟨rfl, dk, HP.out, S1.out⟩

end Go.Proofs.Ytepddehodmljeaa
