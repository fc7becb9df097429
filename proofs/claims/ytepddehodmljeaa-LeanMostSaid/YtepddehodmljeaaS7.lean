/- Walks: symMerge whole; the stable sort. -/
import Derived.Test.YtepddehodmljeaaS6
namespace Go.Proofs.Ytepddehodmljeaa
open Go.Shelf Go.RowKit Go.Lib Go.Sort
variable {P : Program} {α : Type} [Inhabited α] {enc : α → List Value} {k : Nat} {w0 : World} {blk off cap : Nat} {d0 : Array α}

theorem symMerge_calls (T : SP P k) (F1 : P.funcs[221]? = some Try.f221) (F2 : P.funcs[217]? = some Try.f217) (F : P.funcs[210]? = some Try.f210) (cf : α → α → Int) (g : Nat) (eg : ∀ args w, (callFunc g args).run P w = .ok (.enter g args) w) (hcmp : CmpLays P g #[] enc k cf blk off d0.size w0)
    (R : RowK enc k w0 blk off d0) (hsz : d0.size ≤ 1000000) : ∀ (N a m b : Nat) (dk : Array α) (W : World), b - a ≤ N → a < m → m < b → b ≤ d0.size → dk.size = d0.size → SWK enc k w0 blk off dk W →
      Calls P 210 #[.slice (some ⟨blk, off, none⟩) d0.size cap, .int .i64 a, .int .i64 m, .int .i64 b, .func (.func g) #[] #[]] W fun e w' => e = .returned (.tuple #[]) ∧ ∃ d', Prm dk d' ∧ SWK enc k w0 blk off d' w'
  | 0, a, m, b, dk, W, h, h1, h2, _, _, _ => by omega
  | N + 1, a, m, b, dk, W, h, h1, h2, hb, hz, S => by
    by_cases h3 : m - a = 1
    · have := symMergeA_calls (cap := cap) T F cf g eg hcmp R dk hz.symm a m b W S h1 h2 (by omega) (by omega) h3
      rwa [hz] at this
    · by_cases h4 : b - m = 1
      · have := symMergeB_calls (cap := cap) T F cf g eg hcmp R dk hz.symm a m b W S h1 h2 (by omega) (by omega) h3 h4
        rwa [hz] at this
      · have := symMergeC_calls (cap := cap) T F1 F2 F cf g eg hcmp R dk hz.symm a m b W S h1 h2 (by omega) (by omega) h3 h4 fun a' m' b' dk' W' g1 g2 g3 g4 g5 hS => by
          have := symMerge_calls T F1 F2 F cf g eg hcmp R hsz N a' m' b' dk' W' (by omega) g2 g3 (by omega) (by omega) hS
          rwa [← hz] at this
        rwa [hz] at this

set_option maxHeartbeats 8000000 in
set_option maxRecDepth 1000000 in
theorem stable_calls (T : SP P k) (F1 : P.funcs[221]? = some Try.f221) (F2 : P.funcs[217]? = some Try.f217) (F3 : P.funcs[210]? = some Try.f210) (F4 : P.funcs[209]? = some Try.f209) (F : P.funcs[195]? = some Try.f195) (cf : α → α → Int) (g : Nat) (eg : ∀ args w, (callFunc g args).run P w = .ok (.enter g args) w) (hcmp : CmpLays P g #[] enc k cf blk off d0.size w0)
    (R : RowK enc k w0 blk off d0) (hsz : d0.size ≤ 1000000) (w : World) (S : SWK enc k w0 blk off d0 w) :
    Calls P 195 #[.slice (some ⟨blk, off, none⟩) d0.size cap, .int .i64 d0.size, .func (.func g) #[] #[]] w fun e w' => e = .returned (.tuple #[]) ∧ ∃ d', Prm d0 d' ∧ ((d0.size < 20 ∧ Srt cf 0 d0.size d0) → d' = d0) ∧ SWK enc k w0 blk off d' w' := by
  have mixed := T.mixed; have t0 := T.t0; have a0 := T.a0; have z0 := T.z0; have v0 := T.v0; have t3 := T.t3; have a3 := T.a3; have z3 := T.z3; have v3 := T.v3; have t4 := T.t4; have a4 := T.a4; have z4 := T.z4; have v4 := T.v4; have t107 := T.t107; have a107 := T.a107; have z107 := T.z107; have v107 := T.v107; have t175 := T.t175; have a175 := T.a175; have z175 := T.z175; have v175 := T.v175; have aE := T.aE; have zE := T.zE
  have e209 : ∀ args w, (callFunc 209 args).run P w = .ok (.enter 209 args) w := enters_of F4 (by kernel_rfl) rfl
  have e210 : ∀ args w, (callFunc 210 args).run P w = .ok (.enter 210 args) w := enters_of F3 (by kernel_rfl) rfl
  have HI : Aside (∀ (a b : Nat) (dk : Array α) (W : World), a ≤ b → b ≤ d0.size → dk.size = d0.size → SWK enc k w0 blk off dk W →
      Calls P 209 #[.slice (some ⟨blk, off, none⟩) d0.size cap, .int .i64 a, .int .i64 b, .func (.func g) #[] #[]] W fun e w' => e = .returned (.tuple #[]) ∧ ∃ d', Prm dk d' ∧ (Srt cf a b dk → d' = dk) ∧ SWK enc k w0 blk off d' w') := by
    intro a b dk W g1 g2 g3 hS
    have := insertion_calls (cap := cap) T F4 cf g eg hcmp R dk g3.symm a b W hS g1 (by omega) (by omega)
    rwa [g3] at this
  have HM : Aside (∀ (a m b : Nat) (dk : Array α) (W : World), a < m → m < b → b ≤ d0.size → dk.size = d0.size → SWK enc k w0 blk off dk W →
      Calls P 210 #[.slice (some ⟨blk, off, none⟩) d0.size cap, .int .i64 a, .int .i64 m, .int .i64 b, .func (.func g) #[] #[]] W fun e w' => e = .returned (.tuple #[]) ∧ ∃ d', Prm dk d' ∧ SWK enc k w0 blk off d' w') :=
    fun a m b dk W g1 g2 g3 g4 hS => symMerge_calls T F1 F2 F3 cf g eg hcmp R hsz (b - a) a m b dk W (Nat.le_refl _) g1 g2 g3 g4 hS
  have S0 : Aside (SWK enc k w0 blk off d0 w) := S
  clear S hcmp
  obtain ⟨n, hn⟩ : ∃ n, n = d0.size := ⟨_, rfl⟩
  have HN : Aside (n = d0.size) := hn
  rw [← hn] at hsz
  rw [← hn]
  rw [← hn] at HI HM
  have hni : (n : Int) ≤ 1000000 := by omega
  clear hn
  go_enter F, Try.ntmps195
  go_wp2
  go_loopg [7, 8] n (fun kx s7 s8 wr => ∃ (a b : Nat) (dk : Array α), s7 = .int .i64 a ∧ s8 = .int .i64 b ∧ Aside (b = a + 20) ∧ a ≤ n ∧ n - a ≤ kx ∧ Aside (dk.size = d0.size) ∧ Aside (Prm d0 dk) ∧ Aside (n < 20 → dk = d0 ∧ a = 0) ∧ Aside (SWK enc k w0 blk off dk wr))
  case atStart => exact ⟨0, 20, d0, rfl, rfl, (show Aside _ from rfl), Nat.zero_le _, by omega, rfl, Prm.refl d0, fun _ => ⟨rfl, rfl⟩, S0⟩
  case round =>
    clear S0
    obtain ⟨a, b, dk, rfl, rfl, hab, han, hkx, HZ, HP, HT, S1⟩ := hrel
    by_cases hbn : b ≤ n
    · have hbz : (b : Int) ≤ (n : Int) := by omega
      have hc := HI.out a b dk _ (by have := hab.out; omega) hbn (HZ.out.trans HN.out.symm) S1.out
      have wb : IntKind.i64.wrap ((b : Int) + 20) = (b : Int) + 20 := by rw [IntKind.wrap_i64]; omega
      clear S1
      go_wp2_with (go_at_fn 209; refine hc.mono ?_; rintro e w2 ⟨rfl, d2, hp, -, hS⟩; have HP2 : Aside (Prm d0 d2) := HP.out.trans hp; have HZ2 : Aside (d2.size = d0.size) := (show _ = _ from hp.size.trans HZ.out); have HS2 : Aside (SWK enc k w0 blk off d2 w2) := hS; clear hp hS hc)
      go_roundg (n - b)
      case measure => (have := hab.out; omega)
      case rel => exact ⟨b, b + 20, d2, rfl, by go_num, (show Aside _ from rfl), hbn, Nat.le_refl _, HZ2, HP2, (show Aside _ from fun h => by have := hab.out; omega), HS2⟩
    · have hbz : ¬ (b : Int) ≤ (n : Int) := by omega
      have hc := HI.out a n dk _ han (Nat.le_refl _) (HZ.out.trans HN.out.symm) S1.out
      clear S1
      go_wp2_with (go_at_fn 209; refine hc.mono ?_; rintro e w2 ⟨rfl, d2, hp, hst, hS⟩; have HP2 : Aside (Prm d0 d2) := HP.out.trans hp; have HZ2 : Aside (d2.size = d0.size) := (show _ = _ from hp.size.trans HZ.out); have HT2 : Aside ((n < 20 ∧ Srt cf 0 n d0) → d2 = d0) := (show _ → _ from fun h => by obtain ⟨q1, q2⟩ := HT.out h.1; rw [q1, q2] at hst; exact hst h.2); have HS2 : Aside (SWK enc k w0 blk off d2 w2) := hS; clear hp hS hc hst)
      clear HT HZ HP
      go_loopg [6] n (fun kx s6 wr => ∃ (bs : Nat) (dk : Array α), s6 = .int .i64 bs ∧ 20 ≤ bs ∧ bs ≤ 4000000 ∧ n - bs ≤ kx ∧ Aside (dk.size = d0.size) ∧ Aside (Prm d0 dk) ∧ Aside ((n < 20 ∧ Srt cf 0 n d0) → dk = d0) ∧ Aside (SWK enc k w0 blk off dk wr))
      case atStart => exact ⟨20, d2, rfl, Nat.le_refl _, by omega, by omega, HZ2, HP2, HT2, HS2⟩
      case round =>
        clear HZ2 HP2 HT2 HS2
        obtain ⟨bs, dk, rfl, hb20, hbm, hkx1, HZ, HP, HT, S1⟩ := hrel
        by_cases hlt : bs < n
        · have hltz : (bs : Int) < (n : Int) := by omega
          have w2b : IntKind.i64.wrap (2 * (bs : Int)) = 2 * (bs : Int) := by rw [IntKind.wrap_i64]; omega
          have wb2 : IntKind.i64.wrap ((bs : Int) * 2) = (bs : Int) * 2 := by rw [IntKind.wrap_i64]; omega
          go_wp2
          go_loopg [7, 8] n (fun kx s7 s8 wr => ∃ (a b : Nat) (dk : Array α), s7 = .int .i64 a ∧ s8 = .int .i64 b ∧ Aside (b = a + 2 * bs) ∧ a ≤ n ∧ n - a ≤ kx ∧ Aside (dk.size = d0.size) ∧ Aside (Prm d0 dk) ∧ Aside (SWK enc k w0 blk off dk wr))
          case atStart => exact ⟨0, 2 * bs, dk, rfl, by simp, (show Aside _ from (Nat.zero_add _).symm), Nat.zero_le _, by omega, HZ, HP, S1⟩
          case round =>
            clear S1 HZ HP
            obtain ⟨a, b, dk, rfl, rfl, hab2, han2, hkx2, HZ, HP, S1⟩ := hrel
            have wab : IntKind.i64.wrap ((a : Int) + (bs : Int)) = (a : Int) + (bs : Int) := by rw [IntKind.wrap_i64]; omega
            by_cases hbn2 : b ≤ n
            · have hbz2 : (b : Int) ≤ (n : Int) := by omega
              have hc := HM.out a (a + bs) b dk _ (by omega) (by have := hab2.out; omega) hbn2 (HZ.out.trans HN.out.symm) S1.out
              rw [Int.natCast_add] at hc
              have wb3 : IntKind.i64.wrap ((b : Int) + 2 * (bs : Int)) = (b : Int) + 2 * (bs : Int) := by rw [IntKind.wrap_i64]; omega
              clear S1
              go_wp2_with (go_at_fn 210; refine hc.mono ?_; rintro e w2 ⟨rfl, d2, hp, hS⟩; have HP2 : Aside (Prm d0 d2) := HP.out.trans hp; have HZ2 : Aside (d2.size = d0.size) := (show _ = _ from hp.size.trans HZ.out); have HS2 : Aside (SWK enc k w0 blk off d2 w2) := hS; clear hp hS hc)
              go_roundg (n - b)
              case measure => (have := hab2.out; omega)
              case rel => exact ⟨b, b + 2 * bs, d2, rfl, by simp, (show Aside _ from rfl), hbn2, Nat.le_refl _, HZ2, HP2, HS2⟩
            · have hbz2 : ¬ (b : Int) ≤ (n : Int) := by omega
              by_cases hmn : a + bs < n
              · have hmz : (a : Int) + (bs : Int) < (n : Int) := by omega
                have hc := HM.out a (a + bs) n dk _ (by omega) hmn (Nat.le_refl _) (HZ.out.trans HN.out.symm) S1.out
                rw [Int.natCast_add] at hc
                clear S1
                go_wp2_with (go_at_fn 210; refine hc.mono ?_; rintro e w2 ⟨rfl, d2, hp, hS⟩; have HP2 : Aside (Prm d0 d2) := HP.out.trans hp; have HZ2 : Aside (d2.size = d0.size) := (show _ = _ from hp.size.trans HZ.out); have HS2 : Aside (SWK enc k w0 blk off d2 w2) := hS; clear hp hS hc)
                go_roundg (n - 2 * bs)
                case measure => omega
                case rel => exact ⟨2 * bs, d2, by first | go_num | (congr 1; omega), by omega, by omega, Nat.le_refl _, HZ2, HP2, fun h => by omega, HS2⟩
              · have hmz : ¬ (a : Int) + (bs : Int) < (n : Int) := by omega
                go_wp2
                go_roundg (n - 2 * bs)
                case measure => omega
                case rel => exact ⟨2 * bs, dk, by first | go_num | (congr 1; omega), by omega, by omega, Nat.le_refl _, HZ, HP, fun h => by omega, S1⟩
        · have hltz : ¬ (bs : Int) < (n : Int) := by omega
          go_wp2
          go_end0
          exact ⟨rfl, dk, HP.out, fun q1 q2 => HT.out ⟨q1, q2⟩, S1.out⟩

end Go.Proofs.Ytepddehodmljeaa
