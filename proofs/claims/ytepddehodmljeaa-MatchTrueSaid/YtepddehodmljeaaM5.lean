/- Walks: match.With. -/
import Derived.Test.YtepddehodmljeaaM4
namespace Go.Proofs.Ytepddehodmljeaa
open Go.RowKit Go.Maps

theorem zero24 (w : World) : (zeroValue 24).run Try.prog w = .ok (.slice none 0 0) w := by kernel_rfl

/-- How With stands in memory. -/
def WithMem (w : World) (l : List (Value × Value)) (bl : Bl) (wr : World) : Prop :=
  MapIs Try.prog 3 wr w.heap.size l ∧ BlIs (Low Any w.heap.size) wr l bl ∧ Below w.heap.size w wr

theorem WithMem.mono {w wr wr' : World} {l : List (Value × Value)} {bl : Bl} (h : WithMem w l bl wr) (hb : Below wr.heap.size wr wr') : WithMem w l bl wr' :=
  ⟨h.1.keep (hb.block _ h.1.lt), h.2.1.mono (.of_below hb), ext_trans h.2.2 hb⟩
theorem WithMem.keep {w wr wr' : World} {l : List (Value × Value)} {bl : Bl} {M : Blk} (h : WithMem w l bl wr) (hk : Keeps M wr wr') (hM : ∀ i, M i → w.heap.size < i) : WithMem w l bl wr' :=
  ⟨h.1.keep (hk.block _ h.1.lt fun hm => by have := hM _ hm; omega), h.2.1.mono ⟨hk.size, fun b hb hl => ⟨hb, hk.block b hl fun hm => by have := hM _ hm; have := hb.2; omega⟩⟩,
    h.2.2.trans ⟨hk.os, hk.tape, hk.output, hk.size, fun i hi => hk.block i (by have := h.2.2.size; omega) fun hm => by have := hM _ hm; omega⟩⟩
theorem WithMem.start (w : World) : WithMem w [] [] (w.alloc (.map #[] 0)) := ⟨MapIs.made _ _ _, trivial, below_alloc _ _⟩
theorem WithMem.set {w wr wr' : World} {l l' : List (Value × Value)} {bl bl' : Bl} (h : WithMem w l bl wr) (hm : MapIs Try.prog 3 wr' w.heap.size l') (hk : Keeps (fun i => i = w.heap.size) wr wr') (hb : BlIs (Low Any w.heap.size) wr l' bl') : WithMem w l' bl' wr' :=
  ⟨hm, hb.mono ⟨hk.size, fun b hb hl => ⟨hb, hk.block b hl (by have := hb.2; omega)⟩⟩, h.2.2.trans ⟨hk.os, hk.tape, hk.output, hk.size, fun i hi => hk.block i (by have := h.2.2.size; omega) (by omega)⟩⟩

set_option maxRecDepth 100000 in
set_option maxHeartbeats 2000000 in
theorem With_calls (p t : List Int) (hp : chk p = 0) (ht : chk t = 0) (u v : Value) (w : World) (hu : IsInts Any w u p) (hv : IsInts Any w v t) :
    Calls Try.prog 108 #[u, v] w fun e w' => ∃ x, e = .returned (.tuple #[x, .bool (fitL p t).isSome]) ∧ IsTerms (Fr w.heap.size) w' x ((fitL p t).getD []) ∧ Below w.heap.size w w' := by
  have hpn := ne_of_chk hp
  have htn := ne_of_chk ht
  have hpl := len_of_chk hp
  have htl := len_of_chk ht
  have hps := Lib.hid (signs_of_chk hp)
  have hts := Lib.hid (small_of_signs (signs_of_chk ht))
  have hW0 := Lib.hid (WithAt.start hp ht)
  have hv0 := Lib.hid hv.low
  have hpt := Lib.hid (And.intro hp ht)
  obtain ⟨-, ⟨h, -⟩ | ⟨-, b, o, c, rfl, hcap, -, hlt, hc⟩⟩ := hu
  · exact absurd h hpn
  obtain ⟨-, ⟨h, -⟩ | ⟨-, b', o', c', rfl, hcap', -, hlt', hc'⟩⟩ := hv
  · exact absurd h htn
  have HC := Lib.hid hc
  have HC' := Lib.hid hc'
  have hM0 := Lib.hid (WithMem.start w)
  have hmm := @run_makeMap Try.prog
  clear hc hc' hpn htn hp ht hcap hcap'
  go_enter Try.func108, Try.ntmps108
  go_wp2_with fail
  go_loopw [7, 8] (fun i j wr => ∃ (n m : Nat) (l : List (Value × Value)) (bl : Bl), i = .int .i64 n ∧ j = .int .i64 m ∧ Hid (WithAt p t n m bl ∧ WithMem w l bl wr)) (fun i _ _ => p.length - (intOf i).toNat)
  case atStart => exact ⟨0, 0, [], [], rfl, rfl, hW0.out, hM0.out⟩
  case round =>
    obtain ⟨n, m, l, bl, rfl, rfl, hR⟩ := hrel
    clear hW0 hM0
    by_cases hin : n < p.length ∧ m < t.length
    · obtain ⟨hi, hj⟩ := hin
      have hcell : wr.cell? ⟨b, o + n, none⟩ = some (.int .i64 (nth p n)) := (hR.out.2.2.2.cell (p := ⟨b, o + n, none⟩) hlt).trans (HC.out n hi)
      have hcell' : wr.cell? ⟨b', o' + m, none⟩ = some (.int .i64 (nth t m)) := (hR.out.2.2.2.cell (p := ⟨b', o' + m, none⟩) hlt').trans (HC'.out m hj)
      have hii : (n : Int) < p.length := by omega
      have hjj : (m : Int) < t.length := by omega
      by_cases h0 : 0 ≤ nth p n
      · by_cases he : nth p n = nth t m
        · have hW := Lib.hid (hR.out.1.sym hi hj h0 he)
          have hne : (nth p n != nth t m) = false := by simpa using he
          clear he
          go_wp2_with fail
          go_quiet (fail)
          go_wp2_with fail
          go_roundw
          case rel => exact ⟨n + 1, m + 1, l, bl, by go_num, by go_num, hW.out, hR.out.2.mono (below_drewN _ _ _)⟩
          case measure => simp [intOf]; omega
        · have hr : Hid (fitL p t = none) := by rw [Hid, fitL, hR.out.1.clash hi hj h0 he]; rfl
          have hne : (nth p n != nth t m) = true := by simpa using he
          have hB := Lib.hid hR.out.2.2.2
          clear he hR
          go_wp2_with fail
          go_quiet (fail)
          go_wp2_with fail
          go_ret2
          rw [hr.out]
          exact ⟨_, rfl, .nil _ _, ext_trans hB.out (below_drewN _ _ _)⟩
      · have h0' : nth p n < 0 := by omega
        obtain ⟨x, g1, g2, g3, g4, g5, g6, g7⟩ := hR.out.1.var hi hj h0'
        have hsg := hps.out (nth p n) (nth_mem hi)
        have hkey : Hid (keyOf Try.prog 3 (.int .i64 (nth p n)) = some (.int .i64 (nth p n))) := keyOf_int_mk Try.underlying3 (wf_i64 (by omega) (by omega))
        have hAt := At_calls (Low Any w.heap.size) t hts.out _ m (m + x.length) wr (hv0.out.mono ⟨hR.out.2.2.2.size, fun b hb hl => ⟨hb, hR.out.2.2.2.block b hl⟩⟩) g1 (by omega) g4
        rw [Nat.add_sub_cancel_left, g2] at hAt
        have HAt := Lib.hid hAt
        clear hAt g1 g2
        have hxl : (x.length : Int) ≤ 30 := by omega
        cases hl : lk bl (nth p n) with
        | none =>
          have hW := Lib.hid (g5 hl)
          have ha := Lib.hid (hR.out.2.2.1.abs hl)
          clear g5 g6 g7 hl h0
          go_wp2_with fail
          refine HAt.out.mono ?_
          rintro e w' ⟨y, rfl, hy, rfl⟩
          obtain ⟨ya, yc, rfl⟩ := hy.isSlice
          have hY := Lib.hid hy
          clear hy
          go_wp2_with (first
            | (at_lookup; refine lookup_abs true _ _ 179 rfl rfl 3 24 (.slice none 0 0) (int_keyed Try.underlying3) Try.underlying179 (zero24 _) w.heap.size _ rfl hR.out.2.1 _ _ rfl hkey.out ha.out ?_)
            | (at_mapUpdate; refine mapset_abs _ _ _ 179 rfl rfl rfl 3 24 (int_keyed Try.underlying3) Try.underlying179 w.heap.size _ rfl hR.out.2.1 _ _ rfl hkey.out ha.out ?_; intro w1 hm1 hk1 hs1))
          go_roundw
          case rel => exact ⟨n + 1, m + x.length, _, _, by go_num, by go_num, hW.out, hR.out.2.set hm1 hk1 (hR.out.2.2.1.snoc hY.out)⟩
          case measure => simp [intOf]; omega
        | some y0 =>
          obtain ⟨l1, u0, l2, hll, hu0, hset⟩ := hR.out.2.2.1.pres hl
          subst hll
          obtain ⟨ua, uc, rfl⟩ := hu0.isSlice
          have hU0 := Lib.hid hu0
          have hmem : Hid ((Value.int .i64 (nth p n), Value.slice ua y0.length uc) ∈ l1 ++ (Value.int .i64 (nth p n), Value.slice ua y0.length uc) :: l2) := List.mem_append.2 (.inr (List.mem_cons_self ..))
          have hS := Lib.hid hset
          clear hu0 hset
          by_cases hyx : y0 = x
          · subst hyx
            have hW := Lib.hid (g6 hl)
            clear g5 g6 g7 hl h0
            go_wp2_with fail
            refine HAt.out.mono ?_
            rintro e w' ⟨y, rfl, hy, rfl⟩
            obtain ⟨ya, yc, rfl⟩ := hy.isSlice
            have hY := Lib.hid hy
            have hE := Lib.hid (Equal_calls y0 y0 _ _ wr hU0.out.any hy.any)
            clear hy
            go_wp2_with (at_lookup; refine lookup_pres true _ _ 179 rfl rfl 3 24 (int_keyed Try.underlying3) Try.underlying179 w.heap.size _ rfl hR.out.2.1 _ (.slice ua y0.length uc) _ rfl hkey.out hmem.out ?_)
            refine hE.out.mono ?_
            rintro e w' ⟨rfl, nd, rfl⟩
            have hcellD : (wr.drewN nd).cell? ⟨b, o + n, none⟩ = some (.int .i64 (nth p n)) := hcell
            have hmD := Lib.hid (hR.out.2.mono (below_drewN _ wr nd))
            go_wp2_with (at_mapUpdate; refine mapset_pres _ _ _ 179 rfl rfl rfl 3 24 (int_keyed Try.underlying3) Try.underlying179 w.heap.size l1 l2 _ _ rfl hmD.out.1 _ rfl hkey.out ?_; intro w1 hm1 hk1 hs1)
            go_roundw
            case rel => exact ⟨n + 1, m + y0.length, _, _, by go_num, by go_num, hW.out, hmD.out.set hm1 hk1 ((hS.out _ hY.out).mono (.of_below (below_drewN _ wr nd)))⟩
            case measure => simp [intOf]; omega
          · have hr : Hid (fitL p t = none) := by rw [Hid, fitL, g7 y0 hl hyx]; rfl
            have hE0 : Hid (y0 ≠ x) := hyx
            clear g5 g6 g7 hl h0 hyx
            go_wp2_with fail
            refine HAt.out.mono ?_
            rintro e w' ⟨y, rfl, hy, rfl⟩
            obtain ⟨ya, yc, rfl⟩ := hy.isSlice
            have hE := Lib.hid (Equal_calls y0 x _ _ wr hU0.out.any hy.any)
            clear hy
            go_wp2_with (at_lookup; refine lookup_pres true _ _ 179 rfl rfl 3 24 (int_keyed Try.underlying3) Try.underlying179 w.heap.size _ rfl hR.out.2.1 _ (.slice ua y0.length uc) _ rfl hkey.out hmem.out ?_)
            refine hE.out.mono ?_
            rintro e w' ⟨rfl, nd, rfl⟩
            rw [decide_eq_false hE0.out]
            go_wp2_with fail
            go_ret2
            rw [hr.out]
            exact ⟨_, rfl, .nil _ _, (hR.out.2.mono (below_drewN _ wr nd)).2.2⟩
    · have hfin := hR.out.1.done hin
      have hr : Hid (fitL p t = some (outS bl)) := by rw [Hid, fitL, hfin]; rfl
      have hBd := Lib.hid fun s y (hl : lk bl s = some y) => bound_of hpt.out.1 hpt.out.2 hfin hl
      obtain ⟨i24, hi, hz, hsz, hby⟩ := info_parts Try.inf24
      have hM := Lib.hid hR.out.2
      have hcs : (p.length : Int) ≤ n ∨ ((n : Int) < p.length ∧ (t.length : Int) ≤ m) := by omega
      clear hfin hR hin
      rcases hcs with hcs | ⟨hcs, hcs2⟩
      all_goals
        go_wp2_with fail
        refine (None_calls wr).mono ?_
        rintro e w1 ⟨v1, rfl, hO, hB1⟩
        obtain ⟨g, c1, cur, rfl, hg, hgg, hcc⟩ := hO.at (by simp [noneS])
        have hl8 : noneS.length = 8 := rfl
        rw [hl8] at hO ⊢
        have hM1 := Lib.hid (hM.out.mono hB1)
        have hO1 := Lib.hid hO
        have hgl := lt_of_block hgg
        have hz1 := hM.out.2.2.size
        have hz2 := hB1.size
        have hz3 := hM.out.1.lt
        clear hO hB1 hgg hcc hl8 hM
        go_wp2_with (at_range; refine range_map _ 179 rfl rfl 3 24 Try.underlying179 3 w.heap.size l rfl hM1.out.1 ?_; intro w2 hr2 hb2 hs2)
        go_frame
        have hst : Hid (∃ td o, (∀ q ∈ td, q ∈ l) ∧ RngIs w2 w1.heap.size w.heap.size td ∧ OutAt bl td o ∧ OwnRow wr.heap.size 24 1 TermR (fun b => wr.heap.size ≤ b ∧ b ≠ w1.heap.size) w2 (.slice (some ⟨g, 0, none⟩) 8 c1) o ∧ WithMem w l bl w2) :=
          ⟨l, noneS, fun _ h => h, hr2, OutAt.start hM1.out.2.1, hO1.out.mono TermR.ok ⟨hb2.size, fun b hb hl => ⟨⟨hb, by omega⟩, hb2.block b hl⟩⟩ (fun k hk => hb2.block k (hO1.out.block k hk).2), hM1.out.mono hb2⟩
        have hnk : Hid ((l.map (·.1)).Nodup) := hM1.out.1.keys
        clear hr2 hb2 hs2 hO1 hM1
        obtain ⟨wo, rfl⟩ : ∃ wo : World, wo = wr := ⟨_, rfl⟩
        go_loopw [13] (fun _ wr => Hid (∃ td o, (∀ q ∈ td, q ∈ l) ∧ RngIs wr w1.heap.size w.heap.size td ∧ OutAt bl td o ∧ OwnRow wo.heap.size 24 1 TermR (fun b => wo.heap.size ≤ b ∧ b ≠ w1.heap.size) wr (.slice (some ⟨g, 0, none⟩) 8 c1) o ∧ WithMem w l bl wr)) (fun _ wr => wr.rangeLeft w.heap.size w1.heap.size)
        case atStart => exact hst.out
        case round =>
          clear hst
          obtain ⟨td, ol, htd, hrg, hout, hown, hmem⟩ := hrel
          have HT := Lib.hid htd
          have HR := Lib.hid hrg
          have HO := Lib.hid hout
          have HW := Lib.hid hown
          have HM := Lib.hid hmem
          clear htd hrg hout hown hmem
          go_wp2_with (at_next; refine next_map _ rfl rfl w.heap.size w1.heap.size td rfl HR.out ?_ ?_)
          · intro hdone
            have hD := Lib.hid hdone
            clear hdone
            go_wp2_with fail
            go_ret2
            rw [hr.out]
            have ho := HO.out
            rw [hD.out] at ho
            rw [ho.done] at HW
            exact ⟨_, rfl, HW.out.isRow TermR.ok (fun b hb => by have := hb.1; show w.heap.size ≤ b; omega) (fun b hb => by show w.heap.size ≤ b; omega) (by simp [outS_len]), HM.out.2.2⟩
          · intro x vv td' w5 hx htd' hlen5 hrg5 hk5 hs5 hen5
            obtain ⟨s, y, rfl, hvv, hlk⟩ := HM.out.2.1.get hnk.out (HT.out _ hx)
            obtain ⟨hs8, hs0, hyn, hyl, -⟩ := hBd.out s y hlk
            obtain ⟨va, vc, rfl⟩ := hvv.isSlice
            replace htd' : ∀ q : Value × Value, q ∈ td' ↔ q ∈ td ∧ q.1 ≠ .int .i64 s := fun q => htd' q.1 q.2
            have hO5 := Lib.hid (HO.out.step hs8 hs0 hlk htd')
            have hT5 : Hid (∀ q ∈ td', q ∈ l) := fun q hq => HT.out q ((htd' q).1 hq).1
            have hgr : g ≠ w1.heap.size := by omega
            have hM5 := Lib.hid (HM.out.keep hk5 fun i hi => by rw [hi]; omega)
            have hW5 := Lib.hid (HW.out.mono TermR.ok ⟨hk5.size, fun b hb hl => ⟨hb, hk5.block b hl hb.2⟩⟩ fun k hk => hk5.block k (HW.out.block k hk).2 (by simp [Value.ownBlock] at hk; omega))
            have hR5 := Lib.hid hrg5
            have hL5 : Hid (w5.rangeLeft w.heap.size w1.heap.size < wr.rangeLeft w.heap.size w1.heap.size) := by rw [Hid, hrg5.left, HR.out.left]; exact hlen5
            have hcl := Lib.hid (Clone_calls y _ w5 hyn (by omega) (hvv.mono (S' := Any) ⟨hk5.size, fun b hb hl => ⟨trivial, hk5.block b hl (by have := hb.2; omega)⟩⟩))
            have hz5 := HR.out.lt.2
            have hkk : Hid ((-1 - s).toNat < ol.length) := by rw [Hid, HO.out.1]; omega
            clear HM HW HR HT HO hx htd' hlen5 hrg5 hvv hlk hyn hk5
            go_wp2_with fail
            refine hcl.out.mono ?_
            rintro e w6 ⟨z, rfl, hz, hB6⟩
            obtain ⟨za, zc, rfl⟩ := hz.isSlice
            have hs : Hid (TermR (Both' (fun b => wo.heap.size ≤ b ∧ b ≠ w1.heap.size) fun b => b ≠ g) w6 [.slice za y.length zc] y) := ⟨_, rfl, hz.mono (.weak fun b hb => by
              have h1 : w5.heap.size ≤ b := hb
              exact ⟨⟨by omega, by omega⟩, by omega⟩)⟩
            have hW6 := Lib.hid (hW5.out.below TermR.ok hB6)
            have hM6 := Lib.hid (hM5.out.mono hB6)
            have hR6 := Lib.hid (hR5.out.keep (hB6.block _ hR5.out.lt.1) (hB6.block _ hR5.out.lt.2))
            clear hz hcl hW5 hM5
            go_wp2_with ((with_reducible show wpList _ _ _ (Oper.mk none (Op.store _ _ _) _ _ _ _ :: _) _ _); refine store_rows TermR.ok _ _ 24 rfl rfl rfl i24 hi hsz wo.heap.size 24 (fun b => wo.heap.size ≤ b ∧ b ≠ w1.heap.size) g (-1 - s).toNat 8 c1 _ rfl hW6.out hkk.out y hs.out rfl ?_; intro w7 hown7 hg7 hz7)
            have hR7 := Lib.hid (hR6.out.keep (hg7.block _ hR6.out.lt.1 (fun e => by cases e; omega)) (hg7.block _ hR6.out.lt.2 (fun e => by cases e; omega)))
            go_roundw
            case rel =>
              exact ⟨td', _, hT5.out, hR7.out, hO5.out, hown7, hM6.out.keep (M := fun i => i = g) ⟨hg7.os, hg7.tape, hg7.output, hg7.size, fun k hk hm => hg7.block k hk fun e => hm (by cases e; rfl)⟩ fun i hi => by rw [hi]; omega⟩
            case measure =>
              have h1 := hR7.out.left
              have h2 := hR5.out.left
              have h3 := hL5.out
              omega

end Go.Proofs.Ytepddehodmljeaa
