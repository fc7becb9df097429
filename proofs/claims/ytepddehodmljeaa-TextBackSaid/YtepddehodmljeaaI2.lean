/- Walks: haspref: letter, shown. -/
import Derived.Laws.IdiomStrings
import Derived.Test.YtepddehodmljeaaI1
namespace Go.Proofs.Ytepddehodmljeaa
open Go.RowKit

theorem bytes_app (a b : List UInt8) : (⟨a.toArray⟩ : ByteArray) ++ ⟨b.toArray⟩ = ⟨(a ++ b).toArray⟩ := by
  apply ByteArray.ext
  simp [ByteArray.data_append]

set_option maxRecDepth 100000 in
theorem letter_calls (s : Int) (h1 : -8 ≤ s) (h2 : s < 6) (w : World) :
    Calls Try.prog 184 #[.int .i64 s] w fun e w' => e = .returned (.int .u8 ((ltr s).toNat : Int)) ∧ w = w' := by
  have h : s = -8 ∨ s = -7 ∨ s = -6 ∨ s = -5 ∨ s = -4 ∨ s = -3 ∨ s = -2 ∨ s = -1 ∨ s = 0 ∨ s = 1 ∨ s = 2 ∨ s = 3 ∨ s = 4 ∨ s = 5 := by omega
  rcases h with rfl | rfl | rfl | rfl | rfl | rfl | rfl | rfl | rfl | rfl | rfl | rfl | rfl | rfl <;>
  · go_enter Try.func184, Try.ntmps184
    go_wp2_with fail
    go_ret
    exact ⟨rfl, rfl⟩

theorem add_str (a b : ByteArray) (h : a.size + b.size ≤ 4000000) (W : World) : (Op.stringOp .add a b).run Try.prog W = .ok (.string (a ++ b)) W := run_string_add_sum W a b (by omega)
theorem txt_len : ∀ x : Tm, x.txt.length ≤ 4 * x.size
  | .leaf _ => by simp [Tm.txt, Tm.size]
  | .un _ a => by have := txt_len a; simp [Tm.txt, Tm.size]; omega
  | .bin _ a b => by have := txt_len a; have := txt_len b; simp [Tm.txt, Tm.size]; omega
theorem size_bytes (l : List UInt8) : (⟨l.toArray⟩ : ByteArray).size = l.length := by simp [ByteArray.size]
theorem size_add (a b : ByteArray) : (a ++ b).size = a.size + b.size := ByteArray.size_append ..

theorem conv_one (w : World) (c : UInt8) : (convert 205 9 (.slice (some ⟨w.heap.size, 0, none⟩) 1 1)).run Try.prog (w.alloc (.cells #[.int .u8 (c.toNat : Int)] 5)) = .ok (.string ⟨[c].toArray⟩) (w.alloc (.cells #[.int .u8 (c.toNat : Int)] 5)) :=
  run_convert_bytes_back _ 205 9 5 ⟨w.heap.size, 0, none⟩ 1 [c] (by kernel_rfl) (by kernel_rfl) (by kernel_rfl) fun j hj => by
    have : j = 0 := by simpa using hj
    subst this
    simp [go_sem]

set_option maxRecDepth 100000 in
theorem shown_leaf (s : Int) (h1 : -8 ≤ s) (h2 : s < 6) (v : Value) (w : World) (hv : IsTree Any w (.leaf s) v) :
    Calls Try.prog 146 #[v] w fun e w' => e = .returned (.string ⟨(Tm.leaf s).txt.toArray⟩) ∧ Below w.heap.size w w' := by
  obtain ⟨B, rfl, -, hBl, hc0, hc1⟩ := hv
  have hl := Lib.hid (letter_calls s h1 h2 w)
  have htx : (Tm.leaf s).txt = [ltr s] := rfl
  rw [htx]
  clear htx
  generalize ltr s = c at *
  have hcv := conv_one w c
  go_enter Try.func146, Try.ntmps146
  go_wp2_with fail
  refine hl.out.mono ?_
  rintro e w' ⟨rfl, rfl⟩
  go_wp2_with fail
  refine wp_loop_rounds 1 ?_
  rw [rounds_succ]
  go_wp2_with fail
  go_ret
  exact ⟨rfl, below_alloc _ _⟩

set_option maxRecDepth 100000 in
theorem shown_un (s : Int) (a : Tm) (hN : (Tm.un s a).txt.length ≤ 1000000) (h1 : -8 ≤ s) (h2 : s < 6) (v : Value) (w : World) (hv : IsTree Any w (.un s a) v)
    (ih : ∀ (v : Value) (w : World), IsTree Any w a v → Calls Try.prog 146 #[v] w fun e w' => e = .returned (.string ⟨a.txt.toArray⟩) ∧ Below w.heap.size w w') :
    Calls Try.prog 146 #[v] w fun e w' => e = .returned (.string ⟨(Tm.un s a).txt.toArray⟩) ∧ Below w.heap.size w w' := by
  obtain ⟨B, g, c, u, rfl, -, hBl, hc0, hc1, -, hgl, hcu, ht⟩ := hv
  have hl := Lib.hid (letter_calls s h1 h2 w)
  have htx : Hid ((Tm.un s a).txt = (([ltr s] ++ [40]) ++ a.txt) ++ [41]) := by simp [Hid, Tm.txt]
  have hcall := Lib.hid (ih u (w.alloc (.cells #[.int .u8 ((ltr s).toNat : Int)] 5)) (ht.below (below_alloc _ _)))
  have hl0 : a.txt.length ≤ 1000000 := by simp [Tm.txt] at hN; omega
  clear ih ht h1 h2 hN
  generalize ltr s = b at *
  generalize a.txt = l at *
  have ha1 := add_str (⟨#[b]⟩ ++ ⟨#[40]⟩) ⟨l.toArray⟩ (by rw [size_add, size_bytes [b], size_bytes [40], size_bytes l]; simp; omega)
  have ha2 := add_str (⟨#[b]⟩ ++ ⟨#[40]⟩ ++ ⟨l.toArray⟩) ⟨#[41]⟩ (by rw [size_add, size_add, size_bytes [b], size_bytes [40], size_bytes l, size_bytes [41]]; simp; omega)
  generalize (Tm.un s a).txt = r at *
  have hcv := conv_one w b
  go_enter Try.func146, Try.ntmps146
  go_wp2_with fail
  refine hl.out.mono ?_
  rintro e w' ⟨rfl, rfl⟩
  go_wp2_with fail
  refine wp_loop_rounds 2 ?_
  rw [rounds_succ]
  go_wp2_with fail
  refine hcall.out.mono ?_
  rintro e w1 ⟨rfl, hB1⟩
  have hBw := Lib.hid (ext_trans (below_alloc w _) hB1)
  have hd1 : w1.cell? ⟨B, 1, none⟩ = some (.slice (some ⟨g, 0, none⟩) 1 c) := (hBw.out.cell (p := ⟨B, 1, none⟩) hBl).trans hc1
  clear hc0 hc1 hcu hcall hl hcv
  go_wp2_with fail
  rw [rounds_succ]
  go_wp2_with fail
  go_ret
  refine ⟨?_, hBw.out⟩
  rw [htx.out, ← bytes_app, ← bytes_app, ← bytes_app]
  rfl

set_option maxRecDepth 100000 in
theorem shown_bin (s : Int) (a a' : Tm) (hN : (Tm.bin s a a').txt.length ≤ 1000000) (h1 : -8 ≤ s) (h2 : s < 6) (v : Value) (w : World) (hv : IsTree Any w (.bin s a a') v)
    (ih : ∀ (v : Value) (w : World), IsTree Any w a v → Calls Try.prog 146 #[v] w fun e w' => e = .returned (.string ⟨a.txt.toArray⟩) ∧ Below w.heap.size w w')
    (ih' : ∀ (v : Value) (w : World), IsTree Any w a' v → Calls Try.prog 146 #[v] w fun e w' => e = .returned (.string ⟨a'.txt.toArray⟩) ∧ Below w.heap.size w w') :
    Calls Try.prog 146 #[v] w fun e w' => e = .returned (.string ⟨(Tm.bin s a a').txt.toArray⟩) ∧ Below w.heap.size w w' := by
  obtain ⟨B, g, c, u, u', rfl, -, hBl, hc0, hc1, -, hgl, hcu, hcu', ht, ht'⟩ := hv
  have hl := Lib.hid (letter_calls s h1 h2 w)
  have htx : Hid ((Tm.bin s a a').txt = (((([ltr s] ++ [40]) ++ a.txt) ++ [44]) ++ a'.txt) ++ [41]) := by simp [Hid, Tm.txt]
  have hcall := Lib.hid (ih u (w.alloc (.cells #[.int .u8 ((ltr s).toNat : Int)] 5)) (ht.below (below_alloc _ _)))
  have hcall' := Lib.hid fun W (hb : Below w.heap.size w W) => ih' u' W (ht'.below hb)
  have hl0 : a.txt.length + a'.txt.length ≤ 1000000 := by simp [Tm.txt] at hN; omega
  clear ih ht ih' ht' h1 h2 hN
  generalize ltr s = b at *
  generalize a.txt = l at *
  generalize a'.txt = l' at *
  have ha1 := add_str (⟨#[b]⟩ ++ ⟨#[40]⟩) ⟨l.toArray⟩ (by rw [size_add, size_bytes [b], size_bytes [40], size_bytes l]; simp; omega)
  have ha2 := add_str (⟨#[b]⟩ ++ ⟨#[40]⟩ ++ ⟨l.toArray⟩) ⟨#[44]⟩ (by rw [size_add, size_add, size_bytes [b], size_bytes [40], size_bytes l, size_bytes [44]]; simp; omega)
  have ha3 := add_str (⟨#[b]⟩ ++ ⟨#[40]⟩ ++ ⟨l.toArray⟩ ++ ⟨#[44]⟩) ⟨l'.toArray⟩ (by rw [size_add, size_add, size_add, size_bytes [b], size_bytes [40], size_bytes l, size_bytes [44], size_bytes l']; simp; omega)
  have ha4 := add_str (⟨#[b]⟩ ++ ⟨#[40]⟩ ++ ⟨l.toArray⟩ ++ ⟨#[44]⟩ ++ ⟨l'.toArray⟩) ⟨#[41]⟩ (by rw [size_add, size_add, size_add, size_add, size_bytes [b], size_bytes [40], size_bytes l, size_bytes [44], size_bytes l', size_bytes [41]]; simp; omega)
  generalize (Tm.bin s a a').txt = r at *
  have hcv := conv_one w b
  go_enter Try.func146, Try.ntmps146
  go_wp2_with fail
  refine hl.out.mono ?_
  rintro e w' ⟨rfl, rfl⟩
  go_wp2_with fail
  refine wp_loop_rounds 3 ?_
  rw [rounds_succ]
  go_wp2_with fail
  refine hcall.out.mono ?_
  rintro e w1 ⟨rfl, hB1⟩
  have hBw := Lib.hid (ext_trans (below_alloc w _) hB1)
  have hd1 : w1.cell? ⟨B, 1, none⟩ = some (.slice (some ⟨g, 0, none⟩) 2 c) := (hBw.out.cell (p := ⟨B, 1, none⟩) hBl).trans hc1
  have hdu : w1.cell? ⟨g, 1, none⟩ = some u' := (hBw.out.cell (p := ⟨g, 1, none⟩) hgl).trans hcu'
  clear hc0 hcu hcall hl hcv
  go_wp2_with fail
  rw [rounds_succ]
  go_wp2_with fail
  refine (hcall'.out _ hBw.out).mono ?_
  rintro e w3 ⟨rfl, hB3⟩
  have hBw3 := Lib.hid (ext_trans hBw.out hB3)
  have hd3 : w3.cell? ⟨B, 1, none⟩ = some (.slice (some ⟨g, 0, none⟩) 2 c) := (hBw3.out.cell (p := ⟨B, 1, none⟩) hBl).trans hc1
  clear hd1 hdu hcu' hc1 hcall'
  go_wp2_with fail
  rw [rounds_succ]
  go_wp2_with fail
  go_ret
  refine ⟨?_, hBw3.out⟩
  rw [htx.out, ← bytes_app, ← bytes_app, ← bytes_app, ← bytes_app, ← bytes_app]
  rfl

/-- A tree as text. -/
theorem shown_calls : ∀ (x : Tm) (v : Value) (w : World), x.txt.length ≤ 1000000 → (∀ s ∈ x.flat, -8 ≤ s ∧ s < 6) → IsTree Any w x v → Calls Try.prog 146 #[v] w fun e w' => e = .returned (.string ⟨x.txt.toArray⟩) ∧ Below w.heap.size w w'
  | .leaf s, v, w, _, hs, h => shown_leaf s (hs s (by simp [Tm.flat])).1 (hs s (by simp [Tm.flat])).2 v w h
  | .un s a, v, w, hN, hs, h => shown_un s a hN (hs s (by simp [Tm.flat])).1 (hs s (by simp [Tm.flat])).2 v w h fun v w h => shown_calls a v w (by simp [Tm.txt] at hN; omega) (fun x hx => hs x (by simp [Tm.flat, hx])) h
  | .bin s a a', v, w, hN, hs, h => shown_bin s a a' hN (hs s (by simp [Tm.flat])).1 (hs s (by simp [Tm.flat])).2 v w h (fun v w h => shown_calls a v w (by simp [Tm.txt] at hN; omega) (fun x hx => hs x (by simp [Tm.flat, hx])) h) fun v w h => shown_calls a' v w (by simp [Tm.txt] at hN; omega) (fun x hx => hs x (by simp [Tm.flat, hx])) h

/-- haspref.TermText of a right term. -/
theorem TermText_calls (t : List Int) (ht : chk t = 0) (v : Value) (w : World) (hv : IsInts Any w v t) :
    Calls Try.prog 77 #[v] w fun e w' => e = .returned (.string ⟨(tmOf t).txt.toArray⟩) ∧ Below w.heap.size w w' := by
  obtain ⟨o1, f1⟩ := tm_chk ht
  have hN : (tmOf t).txt.length ≤ 1000000 := by
    have h1 := txt_len (tmOf t)
    have h2 := len_of_chk ht
    have h3 := size_flat (tmOf t)
    rw [f1] at h3
    omega
  have hT := Lib.hid (treeOf_calls (tmOf t) o1 v w (by rw [f1]; exact hv))
  have hS := Lib.hid fun p W (h : IsTree Any W (tmOf t) p) => shown_calls (tmOf t) p W hN (by rw [f1]; exact signs_of_chk ht) h
  clear hv ht o1 f1 hN
  go_enter Try.func77, Try.ntmps77
  go_wp2_with fail
  refine hT.out.mono ?_
  rintro e w1 ⟨p, rfl, hp, hB1⟩
  have hc := Lib.hid (hS.out p w1 hp.any)
  have hB := Lib.hid hB1
  clear hp hB1
  go_wp2_with fail
  refine hc.out.mono ?_
  rintro e w2 ⟨rfl, hB2⟩
  go_wp2_with fail
  go_ret
  exact ⟨rfl, ext_trans hB.out hB2⟩

end Go.Proofs.Ytepddehodmljeaa
