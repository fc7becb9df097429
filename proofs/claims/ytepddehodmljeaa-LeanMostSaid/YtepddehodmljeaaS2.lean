/- Walks: what is compared; swapRange, rotate: leans change places. -/
import Derived.Shelf.SlSortCmp.KitK
import Derived.Sort.WalkB2
import Derived.Sort.WalkB12
import Derived.Deep.LoopGhost
import Derived.Test.YtepddehodmljeaaK1
import Derived.Test.YtepddehodmljeaaG1
namespace Go.Proofs.Ytepddehodmljeaa
open Go.Shelf Go.RowKit Go.Lib Go.Sort

abbrev Sl := Option Addr × Nat × Nat
/-- A lean, as it lies. -/
abbrev L4 := Int × Int × Sl × Sl
def slV (s : Sl) : Value := .slice s.1 s.2.1 s.2.2
def encL (x : L4) : List Value := [.int .i64 x.1, .int .i64 x.2.1, slV x.2.2.1, slV x.2.2.2]
theorem encL_len (x : L4) : (encL x).length = 4 := rfl
theorem encL_one (x : L4) : ∀ v ∈ encL x, v.oneCell' = true := by
  intro v hv
  simp [encL] at hv
  rcases hv with rfl | rfl | rfl | rfl <;> rfl
def cfL (x y : L4) : Int := Lib.compareInt x.2.1 y.2.1
section
variable {α : Type} [Inhabited α]
def Prm (d d' : Array α) : Prop := PermIn 0 d.size d d'
theorem Prm.refl (d : Array α) : Prm d d := permIn_refl d 0 d.size
theorem Prm.size {d d' : Array α} (h : Prm d d') : d'.size = d.size := h.1
theorem Prm.trans {a b c : Array α} (h : Prm a b) (k : Prm b c) : Prm a c := by
  have hk : PermIn 0 b.size b c := k
  rw [h.size] at hk
  exact permIn_trans a b c 0 a.size h hk
theorem Prm.swp (d : Array α) {i j : Nat} (hi : i < d.size) (hj : j < d.size) : Prm d (swp d i j) := swp_permIn d 0 d.size i j (Nat.zero_le _) hi (Nat.zero_le _) hj (Nat.le_refl _)
end

/-- What the walks of the sort are told of the program. -/
structure SP (P : Program) (k : Nat) : Prop where
  mixed : P.follows .mixedOrders = true
  t0 : P.underlying 0 = some (TypeDesc.tuple #[])
  a0 : ∀ w, (isAgg 0).run P w = .ok false w
  z0 : ∀ w, (Go.sizeOf 0).run P w = .ok 1 w
  v0 : ∀ w, (zeroValue 0).run P w = .ok (Value.tuple #[]) w
  t3 : P.underlying 3 = some (TypeDesc.int IntKind.i64)
  a3 : ∀ w, (isAgg 3).run P w = .ok false w
  z3 : ∀ w, (Go.sizeOf 3).run P w = .ok 1 w
  v3 : ∀ w, (zeroValue 3).run P w = .ok (Value.int IntKind.i64 0) w
  t4 : P.underlying 4 = some (TypeDesc.bool)
  a4 : ∀ w, (isAgg 4).run P w = .ok false w
  z4 : ∀ w, (Go.sizeOf 4).run P w = .ok 1 w
  v4 : ∀ w, (zeroValue 4).run P w = .ok (Value.bool false) w
  t107 : P.underlying 107 = some (TypeDesc.slice 111)
  a107 : ∀ w, (isAgg 107).run P w = .ok false w
  z107 : ∀ w, (Go.sizeOf 107).run P w = .ok 1 w
  v107 : ∀ w, (zeroValue 107).run P w = .ok (Value.slice none 0 0) w
  t175 : P.underlying 175 = some (TypeDesc.func #[111, 111] #[3] false)
  a175 : ∀ w, (isAgg 175).run P w = .ok false w
  z175 : ∀ w, (Go.sizeOf 175).run P w = .ok 1 w
  v175 : ∀ w, (zeroValue 175).run P w = .ok (Value.nilFunc) w
  t232 : P.underlying 232 = some (TypeDesc.int IntKind.u64)
  a232 : ∀ w, (isAgg 232).run P w = .ok false w
  z232 : ∀ w, (Go.sizeOf 232).run P w = .ok 1 w
  aE : ∀ w, (isAgg 111).run P w = .ok true w
  zE : ∀ w, (Go.sizeOf 111).run P w = .ok k w
theorem spT : SP Try.prog 4 := by
  constructor <;> first | kernel_rfl | (intro w; kernel_rfl)

set_option maxRecDepth 100000 in
theorem cmpL_calls (x y : L4) (w : World) : Calls Try.prog 164 #[.agg (encL x).toArray, .agg (encL y).toArray] w fun e w' => e = .returned (.int .i64 (cfL x y)) ∧ ∃ q os', w' = grow (w.drewN q) os' := by
  have hC := Lib.hid fun W => Try.cmp_Compare_int x.2.1 y.2.1 W
  have hg : Hid ((w.alloc (.cells (encL x).toArray 111)).alloc (.cells (encL y).toArray 111) = grow (w.drewN 0) #[.cells (encL x).toArray 111, .cells (encL y).toArray 111]) := rfl
  unfold encL at *
  go_enter Try.func164, Try.ntmps164
  go_wp2_with fail
  refine (hC.out _).mono ?_
  rintro e w' ⟨rfl, rfl⟩
  go_wp2_with fail
  go_ret
  exact ⟨rfl, 0, #[.cells #[.int .i64 x.1, .int .i64 x.2.1, slV x.2.2.1, slV x.2.2.2] 111, .cells #[.int .i64 y.1, .int .i64 y.2.1, slV y.2.2.1, slV y.2.2.2] 111], hg.out⟩

theorem cmp_lays (blk off size : Nat) (w : World) : CmpLays Try.prog 164 #[] encL 4 cfL blk off size w := fun _ _ _ _ x y => cmpL_calls x y _

abbrev fvL : Value := .func (.func 164) #[] #[]
variable {P : Program} {α : Type} [Inhabited α] {enc : α → List Value} {k : Nat} {w0 : World} {blk off cap : Nat} {d0 : Array α}

set_option maxHeartbeats 4000000 in
set_option maxRecDepth 1000000 in
theorem swapRange_calls (T : SP P k) (F : P.funcs[221]? = some Try.f221) (fv : Value) (R : RowK enc k w0 blk off d0) (d : Array α) (hs : d0.size = d.size) (a b n : Nat) (w : World) (S : SWK enc k w0 blk off d w) (ha : a + n ≤ d.size) (hb : b + n ≤ d.size) (hsz : d.size ≤ 1000000) :
    Calls P 221 #[.slice (some ⟨blk, off, none⟩) d.size cap, .int .i64 a, .int .i64 b, .int .i64 n, fv] w fun e w' => e = .returned (.tuple #[]) ∧ ∃ d', Prm d d' ∧ SWK enc k w0 blk off d' w' := by
  have mixed := T.mixed; have t0 := T.t0; have a0 := T.a0; have z0 := T.z0; have v0 := T.v0; have t3 := T.t3; have a3 := T.a3; have z3 := T.z3; have v3 := T.v3; have t4 := T.t4; have a4 := T.a4; have z4 := T.z4; have v4 := T.v4; have t107 := T.t107; have a107 := T.a107; have z107 := T.z107; have v107 := T.v107; have t175 := T.t175; have a175 := T.a175; have z175 := T.z175; have v175 := T.v175; have aE := T.aE; have zE := T.zE
  have S0 : Aside (SWK enc k w0 blk off d w) := S
  clear S
  go_enter F, Try.ntmps221
  go_wp2
  go_loopg [10] n (fun kx s10 wr => ∃ (i : Nat) (dk : Array α), s10 = .int .i64 i ∧ i ≤ n ∧ n - i ≤ kx ∧ dk.size = d.size ∧ Aside (Prm d dk) ∧ Aside (SWK enc k w0 blk off dk wr))
  case atStart => exact ⟨0, d, rfl, Nat.zero_le _, by omega, rfl, Prm.refl d, S0⟩
  case round =>
    clear S0
    obtain ⟨i, dk, rfl, hin, hkx, hds, HP, S1⟩ := hrel
    by_cases hlt : i < n
    · have hltz : (i : Int) < (n : Int) := by omega
      have hai : a + i < dk.size := by omega
      have hbi : b + i < dk.size := by omega
      have ea : ((a : Int) + (i : Int)).toNat = a + i := by omega
      have pa : (0 : Int) ≤ (a : Int) + (i : Int) := by omega
      have ba : (a : Int) + (i : Int) < (d.size : Int) := by omega
      have ra : IntKind.i64.wrap ((a : Int) + (i : Int)) = (a : Int) + (i : Int) := by rw [IntKind.wrap_i64]; omega
      have eb : ((b : Int) + (i : Int)).toNat = b + i := by omega
      have pb : (0 : Int) ≤ (b : Int) + (i : Int) := by omega
      have bb : (b : Int) + (i : Int) < (d.size : Int) := by omega
      have rb : IntKind.i64.wrap ((b : Int) + (i : Int)) = (b : Int) + (i : Int) := by rw [IntKind.wrap_i64]; omega
      have hds0 : dk.size = d0.size := by omega
      have S2 : Aside (SWK enc k w0 blk off (swp dk (a + i) (b + i)) ((wr.drew.setCells blk (off + (a + i) * k) (enc dk[b + i]!)).setCells blk (off + (b + i) * k) (enc dk[a + i]!))) := S1.out.swapped R (a + i) (b + i) hai hbi
      have HP2 : Aside (Prm d (swp dk (a + i) (b + i))) := HP.out.trans (Prm.swp dk hai hbi)
      have la := S1.out.ld1 R hds0 P (a + i) hai
      have lb := S1.out.ld1 R hds0 P (b + i) hbi
      have sa := S1.out.st1 R hds0 P (a + i) hai dk[b + i]!
      have sb := S1.out.st2 R hds0 P (a + i) (b + i) hai hbi dk[b + i]! dk[a + i]!
      have na : (enc dk[a + i]!).length = k := R.hk _
      have nb : (enc dk[b + i]!).length = k := R.hk _
      have HS : Aside ((swp dk (a + i) (b + i)).size = d.size) := by show _ = _; rw [size_swp]; exact hds
      generalize enc dk[a + i]! = cI at S2 la sb na
      generalize enc dk[b + i]! = cJ at S2 lb sa sb nb
      clear S1 HP hds0
      go_wp2_with fail
      go_big_region_o
      clear la lb sa sb
      generalize (wr.drew.setCells blk (off + (a + i) * k) cJ).setCells blk (off + (b + i) * k) cI = w2 at S2 ⊢
      go_wp2
      go_roundg (n - (i + 1))
      case measure => omega
      case rel => exact ⟨i + 1, swp dk (a + i) (b + i), by go_num, by omega, Nat.le_refl _, HS.out, HP2.out, S2.out⟩
    · have hltz : ¬ (i : Int) < (n : Int) := by omega
      go_wp2
      go_end0
      exact ⟨rfl, dk, HP.out, S1.out⟩

end Go.Proofs.Ytepddehodmljeaa
