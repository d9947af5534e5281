/-
  PROVED HERE: the law UndoKeeps returns true. Conditions: as each theorem states.
-/
import Derived.Test.YtijcehimdhbceaaDoorUnS
import Derived.Test.YtijcehimdhbceaaDoorUop
import Derived.Test.YtijcehimdhbceaaDoorSame
import Derived.Test.YtijcehimdhbceaaDoorErrB
import Derived.Deep.DeepCutAuto
import Derived.Deep.CutBlock
import Derived.Deep.RegionWith
import Derived.Deep.RegionHeld3
import Derived.Deep.DrawnRows
namespace Go.Proofs.YtijcehimdhbceaaDoor.Un
open Go.RowKit
theorem both_start {W w1 w2 : World} {g b g2 b2 d : Nat} (h1 : PT w1 g b 1 [⟨0, -1, -1⟩] 0) (hg : W.heap.size ≤ g) (hb : W.heap.size ≤ b) (k1 : Below W.heap.size W w1)
    (h2 : DT w2 g2 b2 1 d 1 [-1] [0] 0 0) (q1 : w1.heap.size ≤ g2) (q2 : w1.heap.size ≤ b2) (q3 : w1.heap.size ≤ d) (k2 : Below w1.heap.size w1 w2) : BothE W w2 g g2 0 := by
  have lo := h1.low (by decide)
  have s := k1.size
  refine ⟨b, 1, _, b2, 1, d, 1, [-1], [0], 0, 0, ⟨h1.keeps (S := fun _ => False) (Keeps.below k2) (fun x => x) (fun x => x), h2, rfl, rfl, ?_, rfl, fun x hx => by rw [List.mem_singleton.1 hx]; decide, by omega, by omega, by omega, by omega, by omega, by omega, ⟨hg, by omega, hb, by omega, by omega⟩, k1.trans (k2.mono s)⟩, by decide, Nat.le_refl _⟩
  have e : tf [0] = fun _ => 0 := by
    funext i
    unfold tf
    cases i <;> simp
  rw [e]
  exact inv_start
theorem bothE_bw {W w : World} {g g2 k : Nat} (h : BothE W w g g2 k) : Below W.heap.size W w := by
  obtain ⟨_, _, _, _, _, _, _, _, _, _, _, h, _⟩ := h
  exact h.bw
theorem bothE_below {W w w1 : World} {g g2 k : Nat} (h : BothE W w g g2 k) (hb : Below w.heap.size w w1) : BothE W w1 g g2 k := by
  obtain ⟨a1, a2, a3, a4, a5, a6, a7, a8, a9, a10, a11, h, r⟩ := h
  exact ⟨a1, a2, a3, a4, a5, a6, a7, a8, a9, a10, a11, h.below hb, r⟩
set_option maxRecDepth 100000 in
set_option maxHeartbeats 8000000 in
theorem undo_walk (v : Value) (l : List Uop) (W : World) (hl : Uops W v l) (hg : Err.Home W) :
    Calls Tryd.prog 4 #[v] W fun e w' => e = .returned (.bool true) ∧ Below W.heap.size W w' := by
  have UH := Lib.hid hl
  have HG := Lib.hid hg
  obtain ⟨a, cap, rfl, -⟩ := hl
  clear hg
  by_cases h1 : 230 < l.length
  · go_enter Tryd.func4, Tryd.ntmps4
    go_wp2_with fail
    go_ret
    exact ⟨rfl, Below.refl _ _⟩
  go_enter Tryd.func4, Tryd.ntmps4
  go_wp2_with fail
  refine (new_any _ 0).mono ?_; rintro e w1 ⟨g, b, rfl, p1, p2, p3, p4⟩
  go_wp2_with fail
  refine (newTree_any _).mono ?_; rintro e w2 ⟨g2, b2, d, rfl, q1, q2, q3, q4, q5⟩
  have S0 := Lib.hid (both_start p1 p2 p3 p4 q1 q2 q3 q4 q5)
  clear p1 p2 p3 p4 q1 q2 q3 q4 q5
  go_wp2_with fail
  go_loopw [5] (fun i wr => ∃ k : Nat, k ≤ l.length ∧ i = .int .i64 k ∧ Hid (BothE W wr g g2 k)) (fun i _ => l.length - (intOf i).toNat)
  case atStart => exact ⟨0, Nat.zero_le _, rfl, S0⟩
  case round =>
    obtain ⟨k, hk, rfl, hB⟩ := hrel
    by_cases hlt : k < l.length
    · obtain ⟨ad, rfl, x0, x1⟩ := UH.out.at_ k hlt
      have i1 : (0 : Int) ≤ (k : Int) := by omega
      have i2 : (k : Int) < (l.length : Int) := by omega
      have hk230 : k ≤ 230 := by omega
      obtain ⟨b, cap1, ls, b2, cap2, d, cap3, up, tm, now, t, hB, hul, htk⟩ := hB.out
      have y0 := (hB.bw.cell (p := ad.add (k * 2)) (World.block_lt_of_cell? W _ x0)).trans x0
      have y1 := (hB.bw.cell (p := ⟨(ad.add (k * 2)).block, (ad.add (k * 2)).off + 1, none⟩) (World.block_lt_of_cell? W _ x1)).trans x1
      clear x0 x1
      generalize l[k] = x at *
      obtain ⟨wh, n⟩ := x
      simp only at y0 y1
      have hlow := hB.pt.low (by have := hB.ll; have := hB.inv.inb; omega)
      have BH := Lib.hid hB
      clear hB
      have e0 : (wr.alloc (Obj.cells #[Value.int IntKind.i64 wh, Value.int IntKind.i64 n] 42)).cell? ⟨wr.heap.size, 0, none⟩ = some (.int .i64 wh) := by rw [World.cell?_alloc_new]; rfl
      have e1 : (wr.alloc (Obj.cells #[Value.int IntKind.i64 wh, Value.int IntKind.i64 n] 42)).cell? ⟨wr.heap.size, 1, none⟩ = some (.int .i64 n) := by rw [World.cell?_alloc_new]; rfl
      have XH := Lib.hid (And.intro e0 e1)
      go_upto_region 10 with fail
      have BQ := Lib.hid (BH.out.below (Below.alloc (Below.refl _ _) (Nat.le_refl _) (Obj.cells #[Value.int IntKind.i64 wh, Value.int IntKind.i64 n] 42)))
      have HQ := Lib.hid (HG.out.below BQ.out.bw)
      generalize wr.alloc (Obj.cells #[Value.int IntKind.i64 wh, Value.int IntKind.i64 n] 42) = wq at *
      clear y0 y1 BH hB
      go_upto_block 2 with fail
      go_cut [7] (fun s7 wx => s7 = .bool true ∧ Hid (BothE W wx g g2 (k + 1)))
      case first =>
        have hll := BQ.out.ll
        have hinb := BQ.out.inv.inb
        have hnl : now < ls.length := by omega
        by_cases hadd : wh = 0 ∨ wh = 1
        · have L1 := Lib.hid (len_any wq g b cap1 ls now BQ.out.pt)
          rcases hadd with rfl | rfl
          all_goals
            go_wp2_with fail
            refine L1.out.mono ?_; rintro e w6 ⟨rfl, rfl⟩
            go_wp2_with fail
            refine (add_pair BQ.out hul htk (by omega)).mono ?_; rintro e w3 ⟨v, c, rfl, hv, C2⟩
            replace hv := Lib.hid hv
            replace C2 := Lib.hid C2
            go_wp2_with fail
            refine C2.out.mono ?_; rintro e w4 ⟨rfl, hB4⟩
            have b6 := bothE_bw hB4
            replace hB4 := Lib.hid hB4
            go_wp2_with fail
            refine (Err.bare_any v c (-1) c _ (HG.out.below b6) (hv.out _)).mono ?_; rintro e w5 ⟨rfl, b5⟩
            have R5 := Lib.hid (bothE_below hB4.out b5)
            have hcc : (c == c && (-1 : Int) == -1) = true := by simp
            rw [hcc]
            clear b5 b6 hB4 C2 hv
            go_wp2_with fail
            go_meet
            exact ⟨rfl, R5⟩
        by_cases h2 : wh = 2
        · subst h2
          go_wp2_with fail
          refine (undo_pair BQ.out hul htk (by omega)).mono ?_; rintro e w3 ⟨v, c, rfl, hv, C2⟩
          replace hv := Lib.hid hv
          replace C2 := Lib.hid C2
          go_wp2_with fail
          refine C2.out.mono ?_; rintro e w4 ⟨rfl, hB4⟩
          have b6 := bothE_bw hB4
          replace hB4 := Lib.hid hB4
          go_wp2_with fail
          refine (Err.bare_any v c (-1) c _ (HG.out.below b6) (hv.out _)).mono ?_; rintro e w5 ⟨rfl, b5⟩
          have R5 := Lib.hid (bothE_below hB4.out b5)
          have hcc : (c == c && (-1 : Int) == -1) = true := by simp
          rw [hcc]
          clear b5 b6 hB4 C2 hv
          go_wp2_with fail
          go_meet
          exact ⟨rfl, R5⟩
        by_cases h3 : wh = 3
        · subst h3
          go_wp2_with fail
          refine (redo_pair BQ.out hul htk (by omega)).mono ?_; rintro e w3 ⟨v, c, rfl, hv, C2⟩
          replace hv := Lib.hid hv
          replace C2 := Lib.hid C2
          go_wp2_with fail
          refine C2.out.mono ?_; rintro e w4 ⟨rfl, hB4⟩
          have b6 := bothE_bw hB4
          replace hB4 := Lib.hid hB4
          go_wp2_with fail
          refine (Err.bare_any v c (-1) c _ (HG.out.below b6) (hv.out _)).mono ?_; rintro e w5 ⟨rfl, b5⟩
          have R5 := Lib.hid (bothE_below hB4.out b5)
          have hcc : (c == c && (-1 : Int) == -1) = true := by simp
          rw [hcc]
          clear b5 b6 hB4 C2 hv
          go_wp2_with fail
          go_meet
          exact ⟨rfl, R5⟩
        have q0 : (wh == 0) = false := by simp; omega
        have q1 : (wh == 1) = false := by simp; omega
        have q2 : (wh == 2) = false := by simp; omega
        have q3 : (wh == 3) = false := by simp; omega
        clear hadd h2 h3
        have G1 := Lib.hid (go_pair (BQ.out.below (Below.drew (Below.refl _ wq))) hul htk (by omega) n)
        have hn1 : wr.heap.size ≠ g := by omega
        have hn2 : wr.heap.size ≠ b := by omega
        go_wp2_with fail
        go_region_with (first
          | (refine G1.out.mono ?_; rintro e w3 ⟨⟨v, c, rfl, hv, C2⟩, hcell⟩; (have e3 := hcell ⟨wr.heap.size, 1, none⟩ _ hn1 hn2 e1); clear hcell; replace hv := Lib.hid hv; replace C2 := Lib.hid C2)
          | (refine C2.out.mono ?_; rintro e w4 ⟨rfl, hB4⟩; (have b6 := Lib.hid (bothE_bw hB4)); replace hB4 := Lib.hid hB4)
          | (refine (Err.bare_any v c (-1) c _ (HG.out.below b6.out) (hv.out _)).mono ?_; rintro e w5 ⟨rfl, b5⟩; (have R5 := Lib.hid (bothE_below hB4.out b5)); clear b5))
        all_goals
          go_wp2_with fail
          go_meet
          exact ⟨rfl, R5⟩
      case rest =>
        obtain ⟨rfl, hBE⟩ := hcut
        obtain ⟨b', cap1', ls', b2', cap2', d', cap3', up', tm', now', t', hB', hul', htk'⟩ := hBE.out
        have hll' := hB'.ll
        have hin' := hB'.inv.inb
        have hnl' : now' < ls'.length := by omega
        have BD := Lib.hid (hB'.below (Below.drew (Below.refl _ wc)))
        clear hB' hBE BQ HQ e0 e1 XH hlow
        have r0 := BD.out.dt.c0
        have r1 := BD.out.dt.c1
        rw [hll'] at r0
        have n1 : ((ls'.length : Int) != (ls'.length : Int)) = false := by simp
        have n2 : ((now' : Int) != (now' : Int)) = false := by simp
        have hwh : ls'[now'].what = (now' : Int) := by
          have := BD.out.what
          have h1 : (ls'.map St.what)[now']'(by simp; exact hnl') = ls'[now'].what := by simp
          rw [← h1]
          simp [this]
        have NW := Lib.hid (now_any _ g b' cap1' ls' now' BD.out.pt hnl')
        rw [hwh] at NW
        clear hwh
        go_wp2_with fail
        go_region_held3 (fun w' => w'.cell? ⟨g2, 0, none⟩ = some (.slice (some ⟨b2', 0, none⟩) ls'.length cap2') ∧ w'.cell? ⟨g2, 1, none⟩ = some (.int .i64 now'))
          (first
            | (go_split_ands; refine ⟨?_, ?_⟩ <;> first | assumption | exact r0 | exact r1)
            | go_keep)
          (first
          | (go_at_call 13; refine (len_any _ g b' cap1' ls' now' BD.out.pt).mono ?_; rintro e w' ⟨rfl, rfl⟩)
          | (go_at_call 23; refine (at_any _ g b' cap1' ls' now' BD.out.pt).mono ?_; rintro e w' ⟨rfl, rfl⟩)
          | (go_at_call 24; refine NW.out.mono ?_; rintro e wA ⟨rfl, hbA⟩; (have BA := Lib.hid (BD.out.below hbA)); clear hbA; (have rA0 := BA.out.dt.c0); (have rA1 := BA.out.dt.c1); rw [hll'] at rA0)
          | (go_at_call 26; refine (way_any _ g b' cap1' ls' up' now' BA.out.pt BA.out.ups BA.out.inv.ups hin' (by omega)).mono ?_; rintro e wB ⟨vB, rfl, oB, hbB⟩; (have BB := Lib.hid (BA.out.below hbB)); clear hbB; replace oB := Lib.hid oB.ints; (have rB0 := BB.out.dt.c0); (have rB1 := BB.out.dt.c1); rw [hll'] at rB0)
          | (go_at_call 27; refine (docWay_any _ g2 b2' cap2' d' cap3' up' tm' now' t' BB.out.dt BB.out.inv.ups hin' (by omega)).mono ?_; rintro e wC ⟨vC, rfl, oC, hbC⟩; (have BC := Lib.hid (BB.out.below hbC)); (have oB2 := Lib.hid (oB.out.below hbC)); clear hbC; replace oC := Lib.hid oC.ints; (have rC0 := BC.out.dt.c0); (have rC1 := BC.out.dt.c1); rw [hll'] at rC0)
          | (go_at_call 25; refine (sameInts_any vB vC _ _ oB2.out oC.out (by rw [List.length_reverse]; have := way_len up' now'; omega)).mono ?_; rintro e wD ⟨rfl, hbD⟩; (have BE := Lib.hid (BC.out.below hbD)); clear hbD; (have rD0 := BE.out.dt.c0); (have rD1 := BE.out.dt.c1); rw [hll'] at rD0))
        all_goals
          have RR : Hid (BothE W wD g g2 (k + 1)) := Lib.hid ⟨b', cap1', ls', b2', cap2', d', cap3', up', tm', now', t', BE.out, hul', htk'⟩
          clear BE BD
          go_wp2_with fail
          go_roundw
          case rel => first | exact ⟨k + 1, by omega, by go_num, RR⟩ | ((repeat apply Exists.intro); exact ⟨⟨k + 1, by omega, by go_num, RR⟩, rfl⟩)
          case measure => simp [intOf]; omega
    · obtain rfl : k = l.length := by omega
      obtain ⟨b, cap1, ls, b2, cap2, d, cap3, up, tm, now, t, hB, hul, htk⟩ := hB.out
      have hbw := Lib.hid hB.bw
      clear hB
      go_wp2_with fail
      go_ret
      exact ⟨rfl, hbw.out⟩
end Go.Proofs.YtijcehimdhbceaaDoor.Un
