/- Walks: rotate, insertionSort: leans change places. -/
import Derived.Test.YtepddehodmljeaaS2
namespace Go.Proofs.Ytepddehodmljeaa
open Go.Shelf Go.RowKit Go.Lib Go.Sort
variable {P : Program} {α : Type} [Inhabited α] {enc : α → List Value} {k : Nat} {w0 : World} {blk off cap : Nat} {d0 : Array α}

set_option maxHeartbeats 4000000 in
set_option maxRecDepth 1000000 in
theorem rotate_calls (T : SP P k) (F1 : P.funcs[221]? = some Try.f221) (F : P.funcs[217]? = some Try.f217) (fv : Value) (R : RowK enc k w0 blk off d0) (d : Array α) (hs : d0.size = d.size) (a m b : Nat) (w : World) (S : SWK enc k w0 blk off d w) (h1 : a < m) (h2 : m < b) (hb : b ≤ d.size) (hsz : d.size ≤ 1000000) :
    Calls P 217 #[.slice (some ⟨blk, off, none⟩) d.size cap, .int .i64 a, .int .i64 m, .int .i64 b, fv] w fun e w' => e = .returned (.tuple #[]) ∧ ∃ d', Prm d d' ∧ SWK enc k w0 blk off d' w' := by
  have mixed := T.mixed; have t0 := T.t0; have a0 := T.a0; have z0 := T.z0; have v0 := T.v0; have t3 := T.t3; have a3 := T.a3; have z3 := T.z3; have v3 := T.v3; have t4 := T.t4; have a4 := T.a4; have z4 := T.z4; have v4 := T.v4; have t107 := T.t107; have a107 := T.a107; have z107 := T.z107; have v107 := T.v107; have t175 := T.t175; have a175 := T.a175; have z175 := T.z175; have v175 := T.v175; have aE := T.aE; have zE := T.zE
  have e221 : ∀ args w, (callFunc 221 args).run P w = .ok (.enter 221 args) w := enters_of F1 (by kernel_rfl) rfl
  have HS : Aside (∀ (dk : Array α), dk.size = d.size → ∀ (x y n : Nat) (xi yi : Int) (W : World), SWK enc k w0 blk off dk W → (x : Int) = xi → (y : Int) = yi → x + n ≤ d.size → y + n ≤ d.size →
      Calls P 221 #[.slice (some ⟨blk, off, none⟩) d.size cap, .int .i64 xi, .int .i64 yi, .int .i64 n, fv] W fun e w' => e = .returned (.tuple #[]) ∧ ∃ d', Prm dk d' ∧ SWK enc k w0 blk off d' w') := by
    intro dk hdk x y n xi yi W hS hx hy g1 g2
    subst hx hy
    have := swapRange_calls (cap := cap) T F1 fv R dk (by omega) x y n W hS (by omega) (by omega) (by omega)
    rwa [hdk] at this
  have S0 : Aside (SWK enc k w0 blk off d w) := S
  clear S
  have hm : ((m : Int) - (a : Int)) = ((m - a : Nat) : Int) := by omega
  have hbm : ((b : Int) - (m : Int)) = ((b - m : Nat) : Int) := by omega
  have wm : IntKind.i64.wrap ((m : Int) - (a : Int)) = (m : Int) - (a : Int) := by rw [IntKind.wrap_i64]; omega
  have wb : IntKind.i64.wrap ((b : Int) - (m : Int)) = (b : Int) - (m : Int) := by rw [IntKind.wrap_i64]; omega
  go_enter F, Try.ntmps217
  go_wp2
  clear hm hbm wm wb
  go_loopg [10, 11] (b + b) (fun kx s10 s11 wr => ∃ (i j : Nat) (dk : Array α), s10 = .int .i64 i ∧ s11 = .int .i64 j ∧ 1 ≤ i ∧ 1 ≤ j ∧ i + a ≤ m ∧ m + j ≤ b ∧ i + j ≤ kx ∧ dk.size = d.size ∧ Aside (Prm d dk) ∧ Aside (SWK enc k w0 blk off dk wr))
  case atStart => exact ⟨m - a, b - m, d, rfl, rfl, by omega, by omega, by omega, by omega, by omega, rfl, Prm.refl d, S0⟩
  case round =>
    clear S0
    obtain ⟨i, j, dk, rfl, rfl, hi1, hj1, hia, hjb, hkx, hds, HP, S1⟩ := hrel
    have wmi : IntKind.i64.wrap ((m : Int) - (i : Int)) = (m : Int) - (i : Int) := by rw [IntKind.wrap_i64]; omega
    have cmi : ((m - i : Nat) : Int) = (m : Int) - (i : Int) := by omega
    by_cases hij : i = j
    · subst hij
      have hc := HS.out dk hds (m - i) m i _ m _ S1.out cmi rfl (by omega) (by omega)
      clear HS S1 cmi
      go_wp2_with (go_at_fn 221; refine hc.mono ?_; rintro e w' ⟨rfl, d', hp, hS⟩)
      go_end0
      exact ⟨rfl, d', HP.out.trans hp, hS⟩
    · have hne : ((i : Int) == (j : Int)) = false := by rw [beq_eq_false_iff_ne]; omega
      have hne' : ((i : Int) != (j : Int)) = true := by rw [bne, hne]; rfl
      by_cases hgt : j < i
      · have hgti : (j : Int) < (i : Int) := by omega
        have hc := HS.out dk hds (m - i) m j _ m _ S1.out cmi rfl (by omega) (by omega)
        have wij : IntKind.i64.wrap ((i : Int) - (j : Int)) = (i : Int) - (j : Int) := by rw [IntKind.wrap_i64]; omega
        have cij : (i : Int) - (j : Int) = ((i - j : Nat) : Int) := by omega
        have CIJ : Aside ((i : Int) - (j : Int) = ((i - j : Nat) : Int)) := cij
        clear S1 cmi cij
        go_wp2_with (go_at_fn 221; refine hc.mono ?_; rintro e w' ⟨rfl, d', hp, hS⟩; have HP2 : Aside (Prm d d') := HP.out.trans hp; have HS2 : Aside (SWK enc k w0 blk off d' w') := hS; have HZ : Aside (d'.size = d.size) := (show _ = _ from hp.size.trans hds); clear hp hS)
        go_roundg (i - j + j)
        case measure => omega
        case rel => exact ⟨i - j, j, d', by rw [CIJ.out], rfl, by omega, hj1, by omega, hjb, Nat.le_refl _, HZ.out, HP2.out, HS2.out⟩
      · have hgti : ¬ (j : Int) < (i : Int) := by omega
        have wmj : IntKind.i64.wrap ((m : Int) + (j : Int)) = (m : Int) + (j : Int) := by rw [IntKind.wrap_i64]; omega
        have wmji : IntKind.i64.wrap ((m : Int) + (j : Int) - (i : Int)) = (m : Int) + (j : Int) - (i : Int) := by rw [IntKind.wrap_i64]; omega
        have hc := HS.out dk hds (m - i) (m + j - i) i _ _ _ S1.out cmi (show ((m + j - i : Nat) : Int) = (m : Int) + (j : Int) - (i : Int) by omega) (by omega) (by omega)
        have wji : IntKind.i64.wrap ((j : Int) - (i : Int)) = (j : Int) - (i : Int) := by rw [IntKind.wrap_i64]; omega
        have CIJ : Aside ((j : Int) - (i : Int) = ((j - i : Nat) : Int)) := (show _ = _ by omega)
        clear S1 cmi
        go_wp2_with (go_at_fn 221; refine hc.mono ?_; rintro e w' ⟨rfl, d', hp, hS⟩; have HP2 : Aside (Prm d d') := HP.out.trans hp; have HS2 : Aside (SWK enc k w0 blk off d' w') := hS; have HZ : Aside (d'.size = d.size) := (show _ = _ from hp.size.trans hds); clear hp hS)
        go_roundg (i + (j - i))
        case measure => omega
        case rel => exact ⟨i, j - i, d', rfl, by rw [CIJ.out], hi1, by omega, hia, by omega, Nat.le_refl _, HZ.out, HP2.out, HS2.out⟩

end Go.Proofs.Ytepddehodmljeaa
