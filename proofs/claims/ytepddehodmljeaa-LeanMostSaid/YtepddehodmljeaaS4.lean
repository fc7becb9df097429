/- Walks: insertionSort: leans change places; those that stand right stay. -/
import Derived.Test.YtepddehodmljeaaS3
namespace Go.Proofs.Ytepddehodmljeaa
open Go.Shelf Go.RowKit Go.Lib Go.Sort
variable {P : Program} {α : Type} [Inhabited α] {enc : α → List Value} {k : Nat} {w0 : World} {blk off cap : Nat} {d0 : Array α}

/-- What stands right. -/
def Srt (cf : α → α → Int) (a b : Nat) (d : Array α) : Prop := ∀ i, a ≤ i → i + 1 < b → ¬ cf d[i + 1]! d[i]! < 0

set_option maxHeartbeats 4000000 in
set_option maxRecDepth 1000000 in
theorem insertion_calls (T : SP P k) (F : P.funcs[209]? = some Try.f209) (cf : α → α → Int) (g : Nat) (eg : ∀ args w, (callFunc g args).run P w = .ok (.enter g args) w) (hcmp : CmpLays P g #[] enc k cf blk off d0.size w0)
    (R : RowK enc k w0 blk off d0) (d : Array α) (hs : d0.size = d.size) (a b : Nat) (w : World) (S : SWK enc k w0 blk off d w) (hab : a ≤ b) (hb : b ≤ d.size) (hsz : d.size ≤ 1000000) :
    Calls P 209 #[.slice (some ⟨blk, off, none⟩) d.size cap, .int .i64 a, .int .i64 b, .func (.func g) #[] #[]] w fun e w' => e = .returned (.tuple #[]) ∧ ∃ d', Prm d d' ∧ (Srt cf a b d → d' = d) ∧ SWK enc k w0 blk off d' w' := by
  have mixed := T.mixed; have t0 := T.t0; have a0 := T.a0; have z0 := T.z0; have v0 := T.v0; have t3 := T.t3; have a3 := T.a3; have z3 := T.z3; have v3 := T.v3; have t4 := T.t4; have a4 := T.a4; have z4 := T.z4; have v4 := T.v4; have t107 := T.t107; have a107 := T.a107; have z107 := T.z107; have v107 := T.v107; have t175 := T.t175; have a175 := T.a175; have z175 := T.z175; have v175 := T.v175; have aE := T.aE; have zE := T.zE
  have HC : Aside _ := hcmp
  have S0 : Aside (SWK enc k w0 blk off d w) := S
  clear S hcmp
  go_enter F, Try.ntmps209
  go_wp2
  go_loopg [8] b (fun g1 vi wr => ∃ (i : Nat) (dk : Array α), vi = .int .i64 i ∧ a < i ∧ i ≤ b + 1 ∧ b - i ≤ g1 ∧ dk.size = d.size ∧ Aside (Prm d dk) ∧ Aside (Srt cf a b d → dk = d) ∧ Aside (SWK enc k w0 blk off dk wr))
  case atStart => exact ⟨a + 1, d, by go_num, by omega, by omega, by omega, rfl, Prm.refl d, fun _ => rfl, S0⟩
  case round =>
    clear S0
    obtain ⟨i, dk, rfl, hai, hib, hg1, hsk, HP, HT, S1⟩ := hrel
    by_cases hlt : i < b
    · have hltz : (i : Int) < (b : Int) := by omega
      go_wp2
      go_loopg [9] i (fun g2 vj wr2 => ∃ (j : Nat) (dj : Array α), vj = .int .i64 j ∧ a ≤ j ∧ j ≤ i ∧ j ≤ g2 ∧ dj.size = d.size ∧ Aside (Prm d dj) ∧ Aside (Srt cf a b d → dj = d) ∧ Aside (SWK enc k w0 blk off dj wr2))
      case atStart => exact ⟨i, dk, rfl, by omega, Nat.le_refl _, Nat.le_refl _, hsk, HP, HT, S1⟩
      case round =>
        clear S1 HP HT
        obtain ⟨j, dj, rfl, haj, hji, hg2, hsj, HP, HT, S1⟩ := hrel
        by_cases hja : a < j
        · obtain ⟨jp, rfl⟩ : ∃ jp, j = jp + 1 := ⟨j - 1, by omega⟩
          have hjaz : (a : Int) < (jp : Int) + 1 := by omega
          have hjd : decide ((a : Int) < (jp : Int) + 1) = true := decide_eq_true hjaz
          have hjd2 : decide ((jp : Int) + 1 > (a : Int)) = true := decide_eq_true hjaz
          have ea : ((jp : Int) + 1).toNat = jp + 1 := by omega
          have pa : (0 : Int) ≤ (jp : Int) + 1 := by omega
          have ba : (jp : Int) + 1 < (d.size : Int) := by omega
          have ra : IntKind.i64.wrap ((jp : Int) + 1) = (jp : Int) + 1 := by rw [IntKind.wrap_i64]; omega
          have ec : ((jp : Int)).toNat = jp := by omega
          have pc : (0 : Int) ≤ (jp : Int) := by omega
          have bc : (jp : Int) < (d.size : Int) := by omega
          have rc : IntKind.i64.wrap ((jp : Int)) = (jp : Int) := by rw [IntKind.wrap_i64]; omega
          have hds0 : dj.size = d0.size := by omega
          obtain ⟨x, hx⟩ : ∃ x, x = dj[jp + 1]! := ⟨_, rfl⟩
          obtain ⟨y, hy⟩ : ∃ y, y = dj[jp]! := ⟨_, rfl⟩
          have la := S1.out.ld R hds0 P (jp + 1) (by omega)
          have lb := S1.out.ld R hds0 P jp (by omega)
          rw [← hx] at la
          rw [← hy] at lb
          have hc := S1.out.cmp HC.out hds0 x y
          have HXY : Aside (x = dj[jp + 1]! ∧ y = dj[jp]!) := ⟨hx, hy⟩
          have DS0 : Aside (dj.size = d0.size) := hds0
          clear hx hy hds0
          by_cases hlv : cf x y < 0
          · have hT2 : Aside (Srt cf a b d → swp dj (jp + 1) jp = d) := fun h => by
              have e := HT.out h
              have := h jp (by omega) (by omega)
              rw [← e, ← HXY.out.1, ← HXY.out.2] at this
              exact absurd hlv this
            have hP2 : Aside (Prm d (swp dj (jp + 1) jp)) := HP.out.trans (Prm.swp dj (by omega) (by omega))
            have hZ2 : Aside ((swp dj (jp + 1) jp).size = d.size) := by show _ = _; rw [size_swp]; exact hsj
            go_wp2_with fail
            go_quiet_grown (first | (go_at_fn g; refine Calls.grown_of (hc _ _)))
            have S2 : Aside (SWK enc k w0 blk off dj (grow (wr.drewN nq) osq)) := S1.out.grown nq osq
            clear la lb hc S1
            generalize grow (wr.drewN nq) osq = w2 at S2 ⊢
            clear nq osq
            go_wp2_with fail
            have S3 : Aside (SWK enc k w0 blk off (swp dj (jp + 1) jp) ((w2.drew.setCells blk (off + (jp + 1) * k) (enc dj[jp]!)).setCells blk (off + jp * k) (enc dj[jp + 1]!))) := S2.out.swapped R (jp + 1) jp (by omega) (by omega)
            have la := S2.out.ld1 R DS0.out P (jp + 1) (by omega)
            have lb := S2.out.ld1 R DS0.out P jp (by omega)
            have sa := S2.out.st1 R DS0.out P (jp + 1) (by omega) dj[jp]!
            have sb := S2.out.st2 R DS0.out P (jp + 1) jp (by omega) (by omega) dj[jp]! dj[jp + 1]!
            have na : (enc dj[jp + 1]!).length = k := R.hk _
            have nb : (enc dj[jp]!).length = k := R.hk _
            generalize enc dj[jp + 1]! = cI at S3 la sb na
            generalize enc dj[jp]! = cJ at S3 lb sa sb nb
            clear S2
            go_big_region_o
            clear la lb sa sb
            generalize (w2.drew.setCells blk (off + (jp + 1) * k) cJ).setCells blk (off + jp * k) cI = w3 at S3 ⊢
            go_wp2
            go_roundg jp
            case measure => omega
            case rel => exact ⟨jp, swp dj (jp + 1) jp, by first | rfl | go_num | (congr 1; omega), by omega, by omega, Nat.le_refl _, hZ2.out, hP2.out, hT2.out, S3.out⟩
          · go_wp2_with fail
            go_quiet_grown (first | (go_at_fn g; refine Calls.grown_of (hc _ _)))
            have S2 : Aside (SWK enc k w0 blk off dj (grow (wr.drewN nq) osq)) := S1.out.grown nq osq
            clear la lb hc S1
            generalize grow (wr.drewN nq) osq = w2 at S2 ⊢
            clear nq osq
            go_wp2
            go_roundg (b - (i + 1))
            case measure => omega
            case rel => exact ⟨i + 1, dj, by go_num, by omega, by omega, Nat.le_refl _, hsj, HP.out, HT.out, S2.out⟩
        · have hjaz : decide ((j : Int) > (a : Int)) = false := decide_eq_false (by omega)
          have hjaz' : ¬ (a : Int) < (j : Int) := by omega
          have S2 : Aside (SWK enc k w0 blk off dj wr.drew) := S1.out.drew
          clear S1
          go_wp2_with fail
          go_big_region_o
          all_goals go_wp2
          go_roundg (b - (i + 1))
          case measure => omega
          case rel => exact ⟨i + 1, dj, by go_num, by omega, by omega, Nat.le_refl _, hsj, HP.out, HT.out, S2.out⟩
    · have hltz : ¬ (i : Int) < (b : Int) := by omega
      go_wp2
      go_end0
      exact ⟨rfl, dk, HP.out, HT.out, S1.out⟩

end Go.Proofs.Ytepddehodmljeaa
