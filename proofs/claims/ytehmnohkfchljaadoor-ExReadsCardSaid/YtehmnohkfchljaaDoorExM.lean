/-
  PROVED HERE: that the law ExReads returns true. Conditions: as each theorem states.
-/
import Derived.Test.YtehmnohkfchljaaDoorExD
import Derived.Test.YtehmnohkfchljaaDoorExG
import Derived.Test.YtehmnohkfchljaaDoorExL
namespace Go.Proofs.YtehmnohkfchljaaDoor.Ex
open Go.RowKit Dig
set_option maxRecDepth 100000 in
set_option maxHeartbeats 2000000 in
theorem exReads_walk (s : ByteArray) (W : World) (hg : Err.Home W) (hx : ∃ m, W.cell? ⟨1, 0, none⟩ = some (.int .i64 m)) :
    Calls Tryd.prog 3 #[.string s] W fun e w' => e = .returned (.bool true) ∧ Below W.heap.size W w' := by
  by_cases hs : s.size ≤ 200
  · obtain ⟨m, hm⟩ := hx
    have HG := Lib.hid hg
    have C1 := Lib.hid (lineParse_any s hs W m hm)
    have C2 := Lib.hid (fun W => parse_any s hs W)
    have hsI : (s.size : Int) ≤ 200 := by omega
    clear hg hm
    generalize cmd (wd s) = Z at *
    go_enter Tryd.func3, Tryd.ntmps3
    go_wp2_with fail
    refine C1.out.mono ?_; rintro e w1 ⟨vn, vb, vq, rfl, hn, hb, hq, h1⟩
    obtain ⟨an, pn, rfl⟩ := hn.len
    obtain ⟨ab, pb, rfl⟩ := hb.len
    obtain ⟨aq, pq, rfl⟩ := hq.len
    have H1 := Lib.hid h1
    have HN := Lib.hid hn
    have HB := Lib.hid hb
    have HQ := Lib.hid hq
    rw [i64s_len, i64s_len, strs_len] at *
    have HC : Hid (∀ j, (w1.alloc (.cells #[.string Z.w, .slice an Z.n.length pn, .slice ab Z.b.length pb, .slice aq Z.q.length pq] 25)).cell? ⟨w1.heap.size, j, none⟩ = #[.string Z.w, .slice an Z.n.length pn, .slice ab Z.b.length pb, .slice aq Z.q.length pq][j]?) := Lib.hid (fun j => World.cell?_alloc_new _ _ _ _)
    clear h1 hn hb hq
    go_wp2_with fail
    refine (C2.out _).mono ?_; rintro e w2 ⟨un, ub, uq, rfl, jn, jb, jq, h2⟩
    obtain ⟨bn, rn, rfl⟩ := jn.len
    obtain ⟨bb, rb, rfl⟩ := jb.len
    obtain ⟨bq, rq, rfl⟩ := jq.len
    rw [i64s_len, i64s_len, strs_len] at *
    obtain ⟨w3, hw3⟩ : ∃ w3, w2.alloc (.cells #[.string Z.w, .slice bn Z.n.length rn, .slice bb Z.b.length rb, .slice bq Z.q.length rq] 29) = w3 := ⟨_, rfl⟩
    have h23 : Below w2.heap.size w2 w3 := hw3 ▸ (Below.refl _ _).alloc (Nat.le_refl _) _
    have d : ∀ j, (w2.alloc (.cells #[.string Z.w, .slice bn Z.n.length rn, .slice bb Z.b.length rb, .slice bq Z.q.length rq] 29)).cell? ⟨w2.heap.size, j, none⟩ = #[.string Z.w, .slice bn Z.n.length rn, .slice bb Z.b.length rb, .slice bq Z.q.length rq][j]? := fun j => World.cell?_alloc_new _ _ _ _
    rw [hw3] at d
    have d0 : w3.cell? ⟨w2.heap.size, 0, none⟩ = some (.string Z.w) := d 0
    have d1 : w3.cell? ⟨w2.heap.size, 1, none⟩ = some (.slice bn Z.n.length rn) := d 1
    have d2 : w3.cell? ⟨w2.heap.size, 2, none⟩ = some (.slice bb Z.b.length rb) := d 2
    have d3 : w3.cell? ⟨w2.heap.size, 3, none⟩ = some (.slice bq Z.q.length rq) := d 3
    have h13 := h2.trans (h23.mono h2.size)
    have c0 := keepCell h13 (HC.out 0)
    have c1 := keepCell h13 (HC.out 1)
    have c2 := keepCell h13 (HC.out 2)
    have c3 := keepCell h13 (HC.out 3)
    have h1a : Below W.heap.size W (w1.alloc (.cells #[.string Z.w, .slice an Z.n.length pn, .slice ab Z.b.length pb, .slice aq Z.q.length pq] 25)) := H1.out.alloc H1.out.size _
    have H3 : Hid (Below W.heap.size W w3) := Lib.hid (h1a.trans (h13.mono h1a.size))
    have HO : Hid (Own w3 0 3 (.slice an Z.n.length pn) (i64s Z.n) ∧ Own w3 0 9 (.slice ab Z.b.length pb) (strs Z.b) ∧ Own w3 0 3 (.slice aq Z.q.length pq) (i64s Z.q) ∧ Own w3 0 3 (.slice bn Z.n.length rn) (i64s Z.n) ∧ Own w3 0 9 (.slice bb Z.b.length rb) (strs Z.b) ∧ Own w3 0 3 (.slice bq Z.q.length rq) (i64s Z.q)) :=
      Lib.hid ⟨(HN.out.alloc _).below h13, (HB.out.alloc _).below h13, (HQ.out.alloc _).below h13, jn.below h23, jb.below h23, jq.below h23⟩
    have hww : (Z.w.toList == Z.w.toList) = true := by simp
    have HD := Lib.hid (show _ ∧ _ ∧ _ ∧ _ ∧ _ ∧ _ ∧ _ ∧ _ from ⟨c0, c1, c2, c3, d0, d1, d2, d3⟩)
    clear d c0 c1 c2 c3 d0 d1 d2 d3 h13 h23 h1a h2 jn jb jq HC HN HB HQ
    go_wp2_with fail
    (try clear hw3)
    refine (Err.bare_any (ev Z.e) Z.e (-1) Z.e w3 (HG.out.below H3.out) (ev_is _ _)).mono ?_; rintro e w4 ⟨rfl, h4⟩
    have hb1 : (Z.e == Z.e && (-1 : Int) == -1) = true := by simp
    rw [hb1]
    have H4 := Lib.hid h4
    have k := HD.out
    have c0 := keepCell h4 k.1
    have c1 := keepCell h4 k.2.1
    have d0 := keepCell h4 k.2.2.2.2.1
    have d1 := keepCell h4 k.2.2.2.2.2.1
    clear h4 k hb1
    go_wp2_with fail
    refine (sameInts_own _ _ Z.n w4 (HO.out.2.2.2.1.below H4.out) (HO.out.1.below H4.out)).mono ?_; rintro e w5 ⟨rfl, h5⟩
    have H5 := Lib.hid (H4.out.trans (h5.mono H4.out.size))
    clear h5 c0 c1 d0 d1
    have c2 := keepCell H5.out HD.out.2.2.1
    have d2 := keepCell H5.out HD.out.2.2.2.2.2.2.1
    go_wp2_with fail
    refine (sameTexts_own _ _ Z.b w5 (HO.out.2.2.2.2.1.below H5.out) (HO.out.2.1.below H5.out)).mono ?_; rintro e w6 ⟨rfl, h6⟩
    have H6 := Lib.hid (H5.out.trans (h6.mono H5.out.size))
    clear h6 c2 d2
    have c3 := keepCell H6.out HD.out.2.2.2.1
    have d3 := keepCell H6.out HD.out.2.2.2.2.2.2.2
    go_wp2_with fail
    refine (sameInts_own _ _ Z.q w6 (HO.out.2.2.2.2.2.below H6.out) (HO.out.2.2.1.below H6.out)).mono ?_; rintro e w7 ⟨rfl, h7⟩
    have H7 := Lib.hid (H6.out.trans (h7.mono H6.out.size))
    clear h7 c3 d3
    go_wp2_with fail
    go_ret
    exact ⟨rfl, H3.out.trans (H7.out.mono H3.out.size)⟩
  · have hs2 : ¬ (s.size : Int) ≤ 200 := by omega
    go_enter Tryd.func3, Tryd.ntmps3
    go_wp2_with fail
    go_ret
    exact ⟨rfl, Below.refl _ _⟩
end Go.Proofs.YtehmnohkfchljaaDoor.Ex
