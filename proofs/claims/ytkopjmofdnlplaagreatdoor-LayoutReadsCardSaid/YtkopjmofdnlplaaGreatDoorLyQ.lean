/-
  PROVED HERE: the contracts of the small functions of the program's reader of texts; the memory while the program reads one of an item, or many; the contracts as statements. Conditions: as each theorem states.
-/
import Derived.Test.YtkopjmofdnlplaaGreatDoorLyK
namespace Go.Proofs.YtkopjmofdnlplaaGreatDoor.Ly
open Go.RowKit Go.Proofs.YtkopjmofdnlplaaGreatDoor.Tm
/-- The program's reader in the block G. -/
structure PV (G : Nat) (fm : Value) (s : ByteArray) (v : Vw) (w : World) : Prop where
  c0 : w.cell? ⟨G, 0, none⟩ = some fm
  c1 : w.cell? ⟨G, 1, none⟩ = some (.string s)
  c2 : w.cell? ⟨G, 2, none⟩ = some (.int .i64 (v.p : Nat))
  c3 : w.cell? ⟨G, 3, none⟩ = some (.int .i64 (v.k : Nat))
  fz : ∀ j, w.frozen? ⟨G, j, none⟩ = false
theorem PV.lt {G : Nat} {tv : Value} {s : ByteArray} {v : Vw} {w : World} (h : PV G tv s v w) : G < w.heap.size := World.block_lt_of_cell? w _ h.c0
theorem PV.block {G : Nat} {tv : Value} {s : ByteArray} {v : Vw} {w w' : World} (h : PV G tv s v w) (e : w'.heap[G]? = w.heap[G]?) : PV G tv s v w' :=
  ⟨(World.cell?_of_block (a := ⟨G, 0, none⟩) e).trans h.c0, (World.cell?_of_block (a := ⟨G, 1, none⟩) e).trans h.c1, (World.cell?_of_block (a := ⟨G, 2, none⟩) e).trans h.c2, (World.cell?_of_block (a := ⟨G, 3, none⟩) e).trans h.c3, fun j => (World.frozen?_of_block (a := ⟨G, j, none⟩) e).trans (h.fz j)⟩
theorem PV.below {G : Nat} {tv : Value} {s : ByteArray} {v : Vw} {w w' : World} (h : PV G tv s v w) (hb : Below w.heap.size w w') : PV G tv s v w' := h.block (hb.block G h.lt)
theorem PV.drew' {G : Nat} {tv : Value} {s : ByteArray} {v : Vw} {w : World} (h : PV G tv s v w) : PV G tv s v w.drew := h.below (Below.refl _ _).drew
theorem PV.at2 {G : Nat} {tv : Value} {s : ByteArray} {v : Vw} {w : World} (h : PV G tv s v w) (p : Nat) : PV G tv s ⟨p, v.k, v.c, v.a⟩ (w.setCell ⟨G, 2, none⟩ (.int .i64 (p : Nat))) := by
  have o : ∀ j x, j ≠ 2 → w.cell? ⟨G, j, none⟩ = some x → (w.setCell ⟨G, 2, none⟩ (.int .i64 (p : Nat))).cell? ⟨G, j, none⟩ = some x := fun j x h4 hx => by
    rw [World.cell?_setCell_other _ _ _ _ (by intro e; injection e with _ e; exact h4 e.symm)]
    exact hx
  exact ⟨o 0 _ (by decide) h.c0, o 1 _ (by decide) h.c1, World.cell?_setCell_same _ _ _ h.c2, o 3 _ (by decide) h.c3, fun j => by rw [frozen?_setCell]; exact h.fz j⟩
theorem PV.at3 {G : Nat} {tv : Value} {s : ByteArray} {v : Vw} {w : World} (h : PV G tv s v w) (k : Nat) : PV G tv s ⟨v.p, k, v.c, v.a⟩ (w.setCell ⟨G, 3, none⟩ (.int .i64 (k : Nat))) := by
  have o : ∀ j x, j ≠ 3 → w.cell? ⟨G, j, none⟩ = some x → (w.setCell ⟨G, 3, none⟩ (.int .i64 (k : Nat))).cell? ⟨G, j, none⟩ = some x := fun j x h4 hx => by
    rw [World.cell?_setCell_other _ _ _ _ (by intro e; injection e with _ e; exact h4 e.symm)]
    exact hx
  exact ⟨o 0 _ (by decide) h.c0, o 1 _ (by decide) h.c1, o 2 _ (by decide) h.c2, World.cell?_setCell_same _ _ _ h.c3, fun j => by rw [frozen?_setCell]; exact h.fz j⟩
/-- What is thrown. -/
def thrown (ev : Value) : Ending := .panicked [{ v := .iface 135 (.agg #[ev]), recovered := false }]
def PThr (w' : World) (c a : Int) (e : Ending) : Prop := c ≠ 0 ∧ ∃ ev, e = thrown ev ∧ Err.ErrIs w' ev c a
/-- What a method of the reader leaves: it answers, or throws. -/
def StP (G : Nat) (fm : Value) (s : ByteArray) (v' : Vw) (val : Value) (W : World) (e : Ending) (w' : World) : Prop :=
  W.grownBy w' (some G) ∧ ((v'.c = 0 ∧ e = .returned val ∧ PV G fm s v' w') ∨ PThr w' v'.c v'.a e)
section
variable {G : Nat} {fm : Value} {s : ByteArray} {v : Vw} {W : World}
set_option maxRecDepth 100000 in
theorem pFail_any (h : PV G fm s v W) (n : Int) (hn : n ≠ 0) : Calls Tryz.prog 41 #[.pointer (some ⟨G, 0, none⟩), .int .i64 n] W fun e w' => PThr w' n (v.p : Nat) e ∧ Below W.heap.size W w' := by
  have c2 := h.c2
  have HN := Lib.hid hn
  clear h hn
  go_enter Tryz.func41, Tryz.ntmps41
  go_wp2_with fail
  exact ⟨rfl, ⟨HN.out, _, rfl, .inr (.inr ⟨W.heap.size, 0, rfl, by simp, by simp⟩)⟩, (Below.refl _ _).alloc (Nat.le_refl _) _⟩
set_option maxRecDepth 100000 in
set_option maxHeartbeats 2000000 in
theorem take_any (h : PV G fm s v W) (n : Int) (hc : v.c = 0) (hp : v.p ≤ s.size) (hs : s.size ≤ 100000) : Calls Tryz.prog 79 #[.pointer (some ⟨G, 0, none⟩), .int .i64 n] W (StP G fm s (bytV s n v).2 (.string (bytV s n v).1) W) := by
  have c1 := h.c1
  have c2 := h.c2
  have h0 := Lib.hid h
  have i1 : ¬ ((s.size : Int) - (v.p : Int) < -9223372036854775808) := by omega
  have HW : (s.size : Int) - (v.p : Int) ≤ 100000 := by omega
  have hb0 : 0 ≤ (s.size : Int) - (v.p : Int) := by omega
  obtain ⟨R, hR⟩ : ∃ R, bytV s n v = R := ⟨_, rfl⟩
  rw [hR]
  have HR := Lib.hid (show R = bytV s n v from hR.symm)
  have HC := Lib.hid hc
  clear h hR hc
  by_cases hbad : n < 0 ∨ (s.size : Int) - (v.p : Int) < n
  · have HR2 := Lib.hid (show R = (emp, ⟨v.p, v.k, 3, (v.p : Int)⟩) by
      rw [HR.out]
      unfold bytV offV
      rw [if_pos hbad]
      unfold wrV
      rw [if_pos HC.out]
      exact if_pos (show (3 : Int) ≠ 0 by decide))
    have C := Lib.hid (fun w' (hv : PV G fm s v w') => pFail_any hv 3 (by decide))
    clear HR
    go_enter Tryz.func79, Tryz.ntmps79
    go_upto_region 1 with fail
    go_cut [21] (fun v1 wx => v1 = .bool true ∧ Hid (PV G fm s v wx ∧ W.grownBy wx (some G)))
    case first =>
      by_cases hn : n < 0
      · clear hbad
        go_region
        all_goals
          go_wp2_with fail
          go_meet
          exact ⟨by first | rfl | simp [hn], Lib.hid ⟨h0.out.drew', gb_below (some G) (Below.refl _ _).drew⟩⟩
      · have h2 : (s.size : Int) - (v.p : Int) < n := hbad.resolve_left hn
        clear hbad
        go_region
        all_goals
          go_wp2_with fail
          go_meet
          exact ⟨by first | rfl | simp [hn, h2], Lib.hid ⟨h0.out.drew', gb_below (some G) (Below.refl _ _).drew⟩⟩
    case rest =>
      clear h0 c1 c2
      obtain ⟨rfl, hs1⟩ := hcut
      have C := Lib.hid (C.out _ hs1.out.1)
      have g1 := Lib.hid hs1.out.2
      clear hs1
      go_wp2_with fail
      refine (C.out).mono ?_; rintro e' w2 ⟨⟨hn, ev, rfl, he⟩, hb⟩
      unfold thrown
      go_wp2_with fail
      refine ⟨rfl, gb_trans g1.out (gb_below (some G) hb), .inr ?_⟩
      rw [HR2.out]
      exact ⟨hn, ev, rfl, he⟩
  · obtain ⟨m, hm⟩ : ∃ m : Nat, n = (m : Int) := ⟨n.toNat, by omega⟩
    subst hm
    have hp3 : v.p + m ≤ s.size := by omega
    obtain ⟨p2, hp2⟩ : ∃ p2, v.p + m = p2 := ⟨_, rfl⟩
    have HR2 := Lib.hid (show R = (s.extract v.p p2, ⟨p2, v.k, v.c, v.a⟩) by
      rw [HR.out]
      unfold bytV offV
      rw [if_neg hbad]
      unfold cutV
      rw [if_neg (by simp [HC.out]), Int.toNat_natCast, hp2])
    have hpi : (v.p : Int) + (m : Int) = (p2 : Int) := by omega
    rw [hp2] at hp3
    have hp4 : v.p ≤ p2 := by omega
    have d1 : (p2 : Int) ≤ (s.size : Int) := by omega
    have d2 : (v.p : Int) ≤ (p2 : Int) := by omega
    have d3 : (0 : Int) ≤ (v.p : Int) := by omega
    have q1 : ¬ ((m : Int) < 0) := by omega
    have q2 : ¬ ((s.size : Int) - (v.p : Int) < (m : Int)) := by omega
    have f2 := h0.out.fz 2
    clear HR hbad hp2
    go_enter Tryz.func79, Tryz.ntmps79
    go_upto_region 1 with fail
    go_cut [21] (fun v1 wx => v1 = .bool false ∧ Hid (PV G fm s v wx ∧ W.grownBy wx (some G)))
    case first =>
      go_region
      all_goals
        go_wp2_with fail
        go_meet
        exact ⟨by first | rfl | simp [q1, q2], Lib.hid ⟨h0.out.drew', gb_below (some G) (Below.refl _ _).drew⟩⟩
    case rest =>
      clear h0 c1 c2 f2
      obtain ⟨rfl, hs1⟩ := hcut
      have V1 := Lib.hid hs1.out.1
      have g1 := Lib.hid hs1.out.2
      have c1 := V1.out.c1
      have c2 := V1.out.c2
      clear hs1
      go_upto_region 3 with fail
      go_cut [5] (fun v5 wx => v5 = .string (s.extract v.p p2) ∧ Hid (PV G fm s v wx ∧ W.grownBy wx (some G)))
      case first =>
        go_region
        all_goals
          go_wp2_with fail
          go_meet
          exact ⟨rfl, Lib.hid ⟨V1.out.drew', gb_trans g1.out (gb_below (some G) (Below.refl _ _).drew)⟩⟩
      case rest =>
        clear V1 g1 c1 c2
        obtain ⟨rfl, hs1⟩ := hcut
        have V1 := Lib.hid hs1.out.1
        have g1 := Lib.hid hs1.out.2
        have c2 := V1.out.c2
        have f2 := V1.out.fz 2
        clear hs1
        have V2 := Lib.hid (V1.out.at2 p2)
        go_wp2_with fail
        go_ret
        refine ⟨gb_trans g1.out gb_set, .inl ?_⟩
        rw [HR2.out]
        exact ⟨HC.out, rfl, V2.out⟩
set_option maxRecDepth 100000 in
theorem node_results (tmps : Array Value) (w : World) (R : Nat) (v0 v1 v2 v3 v4 v5 v6 : Value) (h4 : tmps.getD 6 undef = .pointer (some ⟨R, 0, none⟩)) (c0 : w.cell? ⟨R, 0, none⟩ = some v0) (c1 : w.cell? ⟨R, 1, none⟩ = some v1) (c2 : w.cell? ⟨R, 2, none⟩ = some v2) (c3 : w.cell? ⟨R, 3, none⟩ = some v3) (c4 : w.cell? ⟨R, 4, none⟩ = some v4) (c5 : w.cell? ⟨R, 5, none⟩ = some v5) (c6 : w.cell? ⟨R, 6, none⟩ = some v6) :
    (results Tryz.f78 tmps).run Tryz.prog w = .ok (.agg #[v0, v1, v2, v3, v4, v5, v6]) w := by
  have h4' : tmps[6]?.getD undef = .pointer (some ⟨R, 0, none⟩) := by simpa using h4
  simp only [results, Tryz.f78]
  simp [go_sem, h4', c0, c1, c2, c3, c4, c5, c6]
/-- Seven cells written in one block. -/
def put7 (w : World) (B : Nat) (v0 v1 v2 v3 v4 v5 v6 : Value) : World :=
  ((((((w.setCell ⟨B, 0, none⟩ v0).setCell ⟨B, 1, none⟩ v1).setCell ⟨B, 2, none⟩ v2).setCell ⟨B, 3, none⟩ v3).setCell ⟨B, 4, none⟩ v4).setCell ⟨B, 5, none⟩ v5).setCell ⟨B, 6, none⟩ v6
theorem put7_gr (w : World) (B : Nat) (v0 v1 v2 v3 v4 v5 v6 : Value) : Gr (fun k => k = B) w (put7 w B v0 v1 v2 v3 v4 v5 v6) := by
  have h : ∀ (w : World) (j : Nat) (v : Value), Gr (fun k => k = B) w (w.setCell ⟨B, j, none⟩ v) := fun w j v => Gr.of gb_set rfl
  exact (((((((h _ _ _).trans (h _ _ _)).trans (h _ _ _)).trans (h _ _ _)).trans (h _ _ _)).trans (h _ _ _)).trans (h _ _ _))
theorem gb_gr_new {W w w' : World} {G B : Nat} (h : W.grownBy w (some G)) (g : Gr (fun k => k = B) w w') (hB : W.heap.size ≤ B) : W.grownBy w' (some G) :=
  ⟨g.os.trans h.os, g.tape.trans h.tape, g.output.trans h.output, Nat.le_trans h.size g.size, fun k hk hn => (g.block k (Nat.lt_of_lt_of_le hk h.size) (fun e => by omega)).trans (h.block k hk hn)⟩
/-- What hangs on a new part: nothing. -/
def newVals (nm : ByteArray) (kd : Int) (p : Nat) : Array Value := #[.string nm, .int .i64 kd, .int .i64 (p : Nat), .int .i64 0, .int .i64 0, .string ⟨#[]⟩, .slice none 0 0]
set_option maxRecDepth 100000 in
set_option maxHeartbeats 2000000 in
theorem node_any (h : PV G fm s v W) (xb xo : Nat) (nm : ByteArray) (kd : Int) (hx : W.cell? ⟨xb, xo + 2, none⟩ = some (.string nm)) (hxG : xb ≠ G) (hc : v.c = 0) (hk : v.k ≤ 400) : Calls Tryz.prog 78 #[.pointer (some ⟨G, 0, none⟩), .pointer (some ⟨xb, xo, none⟩), .int .i64 kd] W (StP G fm s (begV v) (.agg (newVals nm kd v.p)) W) := by
  have h0 := Lib.hid h
  have hGl := h.lt
  have hxl := World.block_lt_of_cell? W _ hx
  simp only at hxl
  obtain ⟨R, hR⟩ : ∃ R, begV v = R := ⟨_, rfl⟩
  rw [hR]
  have HR := Lib.hid (show R = begV v from hR.symm)
  have HC := Lib.hid hc
  have bA : Below W.heap.size W (W.alloc (.cells #[.string ⟨#[]⟩, .int .i64 0, .int .i64 0, .int .i64 0, .int .i64 0, .string ⟨#[]⟩, .slice none 0 0] 27)) := (Below.refl _ _).alloc (Nat.le_refl _) _
  have iA : NB (W.alloc (.cells #[.string ⟨#[]⟩, .int .i64 0, .int .i64 0, .int .i64 0, .int .i64 0, .string ⟨#[]⟩, .slice none 0 0] 27)) W.heap.size nd0 := NB.new _ _
  clear hR hc h
  go_enter Tryz.func78, Tryz.ntmps78
  go_upto_region 1 with fail
  generalize W.alloc (.cells #[.string ⟨#[]⟩, .int .i64 0, .int .i64 0, .int .i64 0, .int .i64 0, .string ⟨#[]⟩, .slice none 0 0] 27) = w1 at *
  obtain ⟨I, hI⟩ : ∃ I, W.heap.size = I := ⟨_, rfl⟩
  rw [hI] at iA hxl hGl ⊢
  have hx1 := keepCell bA hx
  have V1 := Lib.hid (h0.out.below bA)
  have B1 := Lib.hid bA
  have I1 := Lib.hid iA
  have c3 := V1.out.c3
  have f3 := V1.out.fz 3
  have c2 := V1.out.c2
  have HIe := Lib.hid hI
  clear h0 bA iA hx hI
  by_cases hk4 : v.k = 400
  · have HR2 := Lib.hid (show R = ⟨v.p, v.k + 1, 4, (v.p : Int)⟩ by
      rw [HR.out]
      unfold begV
      rw [if_pos (by omega)]
      unfold wrV
      exact if_pos HC.out)
    have C := Lib.hid (pFail_any V1.out 4 (by decide))
    rw [hk4] at c3
    clear HR
    go_wp2_with fail
    refine (C.out).mono ?_; rintro e' w2 ⟨⟨hn, ev, rfl, he⟩, hb⟩
    unfold thrown
    go_wp2_with fail
    refine ⟨rfl, gb_below (some G) (B1.out.trans (hb.mono B1.out.size)), .inr ?_⟩
    rw [HR2.out]
    exact ⟨hn, ev, rfl, he⟩
  · have HR2 := Lib.hid (show R = ⟨v.p, v.k + 1, v.c, v.a⟩ by
      rw [HR.out]
      unfold begV
      rw [if_neg (by omega)])
    have d1 : ¬ (v.k : Int) = 400 := by omega
    have d2 : ((v.k : Int) == 400) = false := by simpa using d1
    obtain ⟨k1, hk1⟩ : ∃ k, v.k + 1 = k := ⟨_, rfl⟩
    have hki : (v.k : Int) + 1 = (k1 : Int) := by omega
    have hkw : wrap64 (k1 : Int) = (k1 : Int) := by unfold wrap64; omega
    rw [hk1] at HR2
    have V2 := Lib.hid (V1.out.at3 k1)
    have I2 := Lib.hid (I1.out.setOther (j := 3) (v := .int .i64 (k1 : Nat)) (show I ≠ G by omega))
    have g2 := Lib.hid (gb_trans (gb_below (some G) B1.out) (gb_set (G := G) (j := 3) (v := .int .i64 (k1 : Nat))))
    clear HR d1 hk4
    have hIG : ¬ I = G := by omega
    have hGI : ¬ G = I := by omega
    go_upto_region 4 with fail
    have hx2 : (w1.setCell ⟨G, 3, none⟩ (.int .i64 (k1 : Nat))).cell? ⟨xb, xo + 2, none⟩ = some (.string nm) := (World.cell?_of_block (a := ⟨xb, xo + 2, none⟩) (Below.heap_setCell _ _ _ _ hxG)).trans hx1
    generalize w1.setCell ⟨G, 3, none⟩ (.int .i64 (k1 : Nat)) = w2 at *
    have c2 := V2.out.c2
    have hz : ∀ j, w2.frozen? ⟨I, j, none⟩ = false := fun j => I2.out.free j
    have x0 : w2.cell? ⟨I, 0, none⟩ = some (.string ⟨#[]⟩) := I2.out.cell 0
    have x1 : w2.cell? ⟨I, 1, none⟩ = some (.int .i64 0) := I2.out.cell 1
    have x2 : w2.cell? ⟨I, 2, none⟩ = some (.int .i64 0) := I2.out.cell 2
    have x3 : w2.cell? ⟨I, 3, none⟩ = some (.int .i64 0) := I2.out.cell 3
    have x4 : w2.cell? ⟨I, 4, none⟩ = some (.int .i64 0) := I2.out.cell 4
    have x5 : w2.cell? ⟨I, 5, none⟩ = some (.string ⟨#[]⟩) := I2.out.cell 5
    have x6 : w2.cell? ⟨I, 6, none⟩ = some (.slice none 0 0) := I2.out.cell 6
    clear c3 f3 hx1
    go_region
    all_goals
      go_wp2_with fail
      refine bodyPost_ret (node_results _ _ I (.string nm) (.int .i64 kd) (.int .i64 (v.p : Nat)) (.int .i64 0) (.int .i64 0) (.string ⟨#[]⟩) (.slice none 0 0) rfl (by go_simp) (by go_simp) (by go_simp) (by go_simp) (by go_simp) (by go_simp) (by go_simp)) rfl ?_
      have g7 := put7_gr w2 I (.string nm) (.int .i64 kd) (.int .i64 (v.p : Nat)) (.int .i64 0) (.int .i64 0) (.string ⟨#[]⟩) (.slice none 0 0)
      refine ⟨gb_trans (gb_gr_new g2.out g7 (Nat.le_of_eq HIe.out)) (gb_below (some G) (Below.refl _ _).drew), .inl ?_⟩
      rw [HR2.out]
      exact ⟨HC.out, rfl, (V2.out.block (g7.block G V2.out.lt hGI)).drew'⟩
set_option maxRecDepth 100000 in
theorem number_any (e : Ex) (xv : Value) (mo : Option Nat) (f : Nf) (ho : ExOk e) (hx : ExAt W e xv) (hN : Nms W mo f) : Calls Tryz.prog 82 #[xv, .map mo] W fun en w' => Below W.heap.size W w' ∧ (((evalF f e).2.1 = 0 ∧ en = .returned (.int .i64 (evalF f e).1)) ∨ PThr w' (evalF f e).2.1 (evalF f e).2.2 en) := by
  have C := Lib.hid (eval_any f mo e xv W ho hx hN)
  unfold EvP at C
  obtain ⟨⟨n, qc, qa⟩, hQ⟩ : ∃ Q, evalF f e = Q := ⟨_, rfl⟩
  rw [hQ] at C ⊢
  simp only at C ⊢
  clear hx hN ho hQ
  go_enter Tryz.func82, Tryz.ntmps82
  go_wp2_with fail
  refine (C.out).mono ?_; rintro e' w1 ⟨ev, rfl, he, hnil, hb⟩
  have HB := Lib.hid hb
  have HE := Lib.hid he
  clear C hb
  by_cases hq : qc = 0
  · obtain rfl : ev = .nilIface := hnil hq
    have HQ := Lib.hid hq
    clear hnil he hq
    go_wp2_with fail
    go_ret
    exact ⟨HB.out, .inl ⟨HQ.out, rfl⟩⟩
  · obtain ⟨T, u, rfl⟩ := err_iface he hq
    have HQ := Lib.hid hq
    clear hnil he hq
    go_wp2_with fail
    exact ⟨rfl, HB.out, .inr ⟨HQ.out, _, rfl, HE.out⟩⟩
end
end Go.Proofs.YtkopjmofdnlplaaGreatDoor.Ly
namespace Go.Proofs.YtkopjmofdnlplaaGreatDoor.Ly
open Go.RowKit Go.Proofs.YtkopjmofdnlplaaGreatDoor.Tm
/-- What the program's reader is given. -/
structure PP (W0 : World) (G : Nat) (mo : Option Nat) (fm : Value) (s : ByteArray) (σ : Vw) (f : Nf) (K : Nat) (W : World) : Prop where
  b0 : Below W0.heap.size W0 W
  hG : W0.heap.size ≤ G
  hm : ∀ b, mo = some b → W0.heap.size ≤ b ∧ b ≠ G
  V : PV G fm s σ W
  N : NmW W mo f K
  kK : K ≤ σ.k
  k : σ.k ≤ 400
  c : σ.c = 0
  p : σ.p ≤ s.size
  hs : s.size ≤ 1000
def OnQ (W : World) (G : Nat) (mo : Option Nat) (fm : Value) (s : ByteArray) (K k : Nat) (R : Nd × Vw × Nf) (e : Ending) (w' : World) : Prop :=
  Gr (GM G mo) W w' ∧ ((R.2.1.c = 0 ∧ ∃ kv, e = .returned (.agg (ndVals R.1 kv).toArray) ∧ PV G fm s R.2.1 w' ∧ NmW w' mo R.2.2 (K + (R.2.1.k - (k + 1))) ∧ k + 1 ≤ R.2.1.k ∧ R.2.1.k ≤ 400 ∧ R.2.1.p ≤ s.size ∧ NdF W.heap.size w' R.1 kv ∧ (∃ a m c, kv = .slice a m c)) ∨ PThr w' R.2.1.c R.2.1.a e)
def BkQ (W : World) (G : Nat) (mo : Option Nat) (fm : Value) (s : ByteArray) (K k : Nat) (R : List Nd × Vw × Nf) (e : Ending) (w' : World) : Prop :=
  Gr (GM G mo) W w' ∧ ((R.2.1.c = 0 ∧ ∃ kv, e = .returned kv ∧ PV G fm s R.2.1 w' ∧ NmW w' mo R.2.2 (K + (R.2.1.k - k)) ∧ k ≤ R.2.1.k ∧ R.2.1.k ≤ 400 ∧ R.2.1.p ≤ s.size ∧ NdsF W.heap.size w' R.1 kv ∧ (∃ a m c, kv = .slice a m c)) ∨ PThr w' R.2.1.c R.2.1.a e)
/-- The map of structs answers, in each later world. -/
def FmW (W0 : World) (ts : List Ty) (fm : Value) : Prop := ∃ b, fm = .map (some b) ∧ ∀ y : ByteArray, y.size ≤ 1000 → ∃ a m c, (∀ w', Below W0.heap.size W0 w' → (Instr.lookup 82 (.map (some b)) (.string y) false).run Tryz.prog w' = .ok (.slice a m c) w') ∧ ItsAt W0 (.slice a m c) (itsT ts y)
/-- The item x lies at the place. -/
def ItP (W0 : World) (x : It) (xb xo : Nat) : Prop := ∃ cv iv, (∀ i v, (itVals x cv iv)[i]? = some v → W0.cell? ⟨xb, xo + i, none⟩ = some v) ∧ ItAt W0 x cv iv
/-- The item x lies at the place, while the reader's box and the map change. -/
def ItQ (W0 W : World) (G : Nat) (mo : Option Nat) (x : It) (xb xo : Nat) : Prop := xb ≠ G ∧ ∃ cv iv, (∀ w', Gr (GM G mo) W w' → ∀ i v, (itVals x cv iv)[i]? = some v → w'.cell? ⟨xb, xo + i, none⟩ = some v) ∧ ItAt W0 x cv iv
theorem ItP.q {W0 W : World} {G : Nat} {mo : Option Nat} {x : It} {xb xo : Nat} (h : ItP W0 x xb xo) (hb : Below W0.heap.size W0 W) (hG : W0.heap.size ≤ G) (hm : ∀ b, mo = some b → W0.heap.size ≤ b) : ItQ W0 W G mo x xb xo := by
  obtain ⟨cv, iv, h1, h2⟩ := h
  have hx := World.block_lt_of_cell? W0 _ (h1 0 _ rfl)
  simp only at hx
  refine ⟨by omega, cv, iv, fun w' g i v hv => keepCell (Gr.to_below hb g hb.size (fun k hk hS => ?_)) (h1 i v hv), h2⟩
  rcases hS with e | e
  · omega
  · have := hm k e.symm; omega
theorem ItQ.gr {W0 W w : World} {G : Nat} {mo : Option Nat} {x : It} {xb xo : Nat} (h : ItQ W0 W G mo x xb xo) (g : Gr (GM G mo) W w) : ItQ W0 w G mo x xb xo := by
  obtain ⟨h0, cv, iv, h1, h2⟩ := h
  exact ⟨h0, cv, iv, fun w' g' => h1 w' (g.trans g'), h2⟩
def OneQ (W0 : World) (ts : List Ty) (fm : Value) (s : ByteArray) (m : Nat) : Prop :=
  ∀ G mo σ f K W x xb xo, PP W0 G mo fm s σ f K W → ItQ W0 W G mo x xb xo → WfI x → 401 ≤ m + σ.k → (mo ≠ none ∨ x.kind = 3) → Calls Tryz.prog 40 #[.pointer (some ⟨G, 0, none⟩), .pointer (some ⟨xb, xo, none⟩), .map mo] W (OnQ W G mo fm s K σ.k (oneD ts s m x σ f))
def ManyQ (W0 : World) (ts : List Ty) (fm : Value) (s : ByteArray) (m : Nat) : Prop :=
  ∀ G mo σ f K W x xb xo, PP W0 G mo fm s σ f K W → ItQ W0 W G mo x xb xo → WfI x → 401 ≤ m + σ.k → mo ≠ none → x.many = true → Calls Tryz.prog 124 #[.pointer (some ⟨G, 0, none⟩), .pointer (some ⟨xb, xo, none⟩), .map mo] W (OnQ W G mo fm s K σ.k (listG (oneD ts s m) x σ f))
def BlkQ (W0 : World) (ts : List Ty) (fm : Value) (s : ByteArray) (m : Nat) : Prop :=
  ∀ G mo σ f K W l lv, PP W0 G mo fm s σ f K W → ItsAt W0 lv l → WfL l → 401 ≤ m + σ.k → mo ≠ none → l.length ≤ 16 → Calls Tryz.prog 83 #[.pointer (some ⟨G, 0, none⟩), lv, .map mo] W (BkQ W G mo fm s K σ.k (blkD ts s m l σ f))
/-- The memory while one of an item is read: Rb is the result's, X the part's. -/
structure QS (W0 W : World) (G : Nat) (mo : Option Nat) (fm : Value) (s : ByteArray) (Rb X : Nat) (σ : Vw) (f : Nf) (K : Nat) (vs : List Value) (w : World) : Prop where
  b0 : Below W0.heap.size W0 w
  V : PV G fm s σ w
  g : Gr (GM G mo) W w
  N : NmW w mo f K
  rx : NB w Rb nd0
  bx : NB w X vs
  hR : W.heap.size ≤ Rb
  hX : Rb < X
  hG : G < W.heap.size
  hm : ∀ b, mo = some b → b < W.heap.size ∧ b ≠ G
  lo : W0.heap.size ≤ W.heap.size
  lG : W0.heap.size ≤ G
  lm : ∀ b, mo = some b → W0.heap.size ≤ b
section
variable {W0 W w w' : World} {G : Nat} {mo : Option Nat} {fm : Value} {s : ByteArray} {Rb X : Nat} {σ σ' : Vw} {f f' : Nf} {K K' : Nat} {vs : List Value}
theorem QS.gr (h : QS W0 W G mo fm s Rb X σ f K vs w) (g : Gr (GM G mo) w w') (V' : PV G fm s σ' w') (N' : NmW w' mo f' K') : QS W0 W G mo fm s Rb X σ' f' K' vs w' := by
  have hR := h.hR
  have hX := h.hX
  have hG := h.hG
  have hm := h.hm
  have n : ∀ k, W.heap.size ≤ k → ¬ GM G mo k := fun k hk => gm_not (by omega) fun b hb => by have := (hm b hb).1; omega
  refine ⟨Gr.to_below h.b0 g h.b0.size (fun k hk hS => ?_), V', h.g.trans g, N', h.rx.gr g (n Rb hR), h.bx.gr g (n X (by omega)), hR, hX, hG, hm, h.lo, h.lG, h.lm⟩
  rcases hS with e | e
  · have := h.lG; omega
  · have := h.lm k e.symm; omega
theorem QS.st (h : QS W0 W G mo fm s Rb X σ f K vs w) (hs : w.grownBy w' (some G)) (V' : PV G fm s σ' w') : QS W0 W G mo fm s Rb X σ' f K vs w' := by
  refine h.gr (Gr.of hs (gm_G G mo)) V' (h.N.block fun b hb => ?_)
  have hlt := h.N.lt b hb
  exact hs.block b hlt (fun e2 => by injection e2 with e2; exact (h.hm b hb).2 e2)
theorem QS.below (h : QS W0 W G mo fm s Rb X σ f K vs w) (hb : Below w.heap.size w w') : QS W0 W G mo fm s Rb X σ f K vs w' := h.gr (Gr.below hb) (h.V.below hb) (h.N.below hb)
theorem QS.drew' (h : QS W0 W G mo fm s Rb X σ f K vs w) : QS W0 W G mo fm s Rb X σ f K vs w.drew := h.below (Below.refl _ _).drew
/-- A call with a map of its own. -/
theorem QS.own {b : Nat} (h : QS W0 W G mo fm s Rb X σ f K vs w) (g : Gr (GM G (some b)) w w') (hb : w.heap.size ≤ b) (V' : PV G fm s σ' w') : QS W0 W G mo fm s Rb X σ' f K vs w' := by
  have g2 : Gr (GM G mo) w w' := ⟨g.os, g.tape, g.output, g.size, fun k hk hS => g.block k hk (fun h2 => by
    rcases h2 with e | e
    · exact hS (.inl e)
    · injection e with e; omega)⟩
  refine h.gr g2 V' (h.N.block fun b2 hb2 => ?_)
  have hlt := h.N.lt b2 hb2
  refine g.block b2 hlt fun h2 => ?_
  rcases h2 with e | e
  · exact (h.hm b2 hb2).2 e
  · injection e with e; omega
theorem QS.set (h : QS W0 W G mo fm s Rb X σ f K vs w) (j : Nat) (v : Value) : QS W0 W G mo fm s Rb X σ f K (vs.set j v) (w.setCell ⟨X, j, none⟩ v) := by
  have hR := h.hR
  have hX := h.hX
  have hG := h.hG
  have e : ∀ k, k ≠ X → (w.setCell ⟨X, j, none⟩ v).heap[k]? = w.heap[k]? := fun k hk => Below.heap_setCell _ _ _ _ hk
  have sz : (w.setCell ⟨X, j, none⟩ v).heap.size = w.heap.size := by simp [World.setCell]
  have lo := h.lo
  have b0 := h.b0
  have hg := h.g
  exact ⟨⟨b0.os, b0.tape, b0.output, by rw [sz]; exact b0.size, fun k hk => (e k (by omega)).trans (b0.block k hk)⟩, h.V.block (e G (by omega)), ⟨hg.os, hg.tape, hg.output, by rw [sz]; exact hg.size, fun k hk hS => (e k (by omega)).trans (hg.block k hk hS)⟩, h.N.block fun b hb => e b (by have := (h.hm b hb).1; omega), h.rx.setOther (by omega), h.bx.set j v, hR, hX, hG, h.hm, lo, h.lG, h.lm⟩
theorem QS.num {v0 v1 v2 v3 v5 v6 : Value} {n : Int} (h : QS W0 W G mo fm s Rb X σ f K [v0, v1, v2, v3, .int .i64 n, v5, v6] w) (n2 : Int) : QS W0 W G mo fm s Rb X σ f K [v0, v1, v2, v3, .int .i64 n2, v5, v6] (w.setCell ⟨X, 4, none⟩ (.int .i64 n2)) ∧ w.cell? ⟨X, 4, none⟩ = some (.int .i64 n) ∧ w.frozen? ⟨X, 4, none⟩ = false := ⟨h.set 4 _, h.bx.cell 4, h.bx.free 4⟩
theorem QS.pp (h : QS W0 W G mo fm s Rb X σ f K vs w) (kK : K ≤ σ.k) (k : σ.k ≤ 400) (c : σ.c = 0) (p : σ.p ≤ s.size) (hs : s.size ≤ 1000) : PP W0 G mo fm s σ f K w :=
  ⟨h.b0, h.lG, fun b hb => ⟨h.lm b hb, (h.hm b hb).2⟩, h.V, h.N, kK, k, c, p, hs⟩
theorem QS.nds (_h : QS W0 W G mo fm s Rb X σ f K vs w) {l : List Nd} {kv : Value} (hF : NdsF (X + 1) w l kv) (j : Nat) (v : Value) : NdsF (X + 1) (w.setCell ⟨X, j, none⟩ v) l kv :=
  Fw.later hF (by simp [World.setCell]) fun k h1 _ => Below.heap_setCell _ _ _ _ (show k ≠ X by omega)
theorem QS.ndsGr (h : QS W0 W G mo fm s Rb X σ f K vs w) {l : List Nd} {kv : Value} (hF : NdsF (X + 1) w l kv) (g : Gr (GM G mo) w w') : NdsF (X + 1) w' l kv :=
  Fw.gr hF g fun k hS => by
    have hR := h.hR
    have hX := h.hX
    have hG := h.hG
    rcases hS with e | e
    · omega
    · have := (h.hm k e.symm).1; omega
/-- The start: the result's box, what stood between, the part's box. -/
theorem QS.start {w1 w2 : World} (P : PP W0 G mo fm s σ f K W) (hb : Below W.heap.size W w1) (hr : NB w1 Rb nd0) (hR : W.heap.size ≤ Rb) (g : w1.grownBy w2 (some G)) (V' : PV G fm s σ' w2) : QS W0 W G mo fm s Rb w2.heap.size σ' f K vs (w2.alloc (.cells vs.toArray 27)) := by
  have hGl := P.V.lt
  have hm : ∀ b, mo = some b → b < W.heap.size ∧ b ≠ G := fun b hb => ⟨P.N.lt b hb, (P.hm b hb).2⟩
  have g1 : Gr (GM G mo) W w2 := (Gr.below hb).trans (Gr.of g (gm_G G mo))
  have s1 := hb.size
  have s2 := g.size
  have hrl := hr.lt
  have N2 : NmW w2 mo f K := (P.N.below hb).block fun b hb2 => g.block b (by have := (hm b hb2).1; omega) (fun e => by injection e with e; exact (hm b hb2).2 e)
  have r2 : NB w2 Rb nd0 := (g.block Rb hrl (fun e => by injection e with e; omega)).trans hr
  have bA : Below w2.heap.size w2 (w2.alloc (.cells vs.toArray 27)) := (Below.refl _ _).alloc (Nat.le_refl _) _
  refine ⟨Gr.to_below P.b0 (g1.trans (Gr.below bA)) P.b0.size (fun k hk hS => ?_), V'.below bA, g1.trans (Gr.below bA), N2.below bA, r2.gr (Gr.below (S := fun _ => False) bA) id, NB.new _ _, hR, by omega, hGl, hm, P.b0.size, P.hG, fun b hb => (P.hm b hb).1⟩
  rcases hS with e | e
  · have := P.hG; omega
  · have := (P.hm k e.symm).1; omega
/-- The end: the part is stored as the result. -/
theorem QS.post {l : List Nd} {a : Option Addr} {m c : Nat} {nm : ByteArray} {kd sz n : Int} {p0 k K1 : Nat} {t : ByteArray} {R : Nd × Vw × Nf} (h : QS W0 W G mo fm s Rb X σ f K vs w) (hF : NdsF (X + 1) w l (.slice a m c)) (hR : R = (.mk nm kd p0 sz n t l, σ, f)) (hc : σ.c = 0) (hb : Bds s K1 k K σ) (v0 v1 v2 v3 v4 v5 v6 : Value) :
    OnQ W G mo fm s K1 k R (.returned (.agg #[.string nm, .int .i64 kd, .int .i64 (p0 : Nat), .int .i64 sz, .int .i64 n, .string t, .slice a m c])) (put7 w Rb v0 v1 v2 v3 v4 v5 v6) := by
  subst hR
  obtain ⟨b1, b2, b3, b4, b5⟩ := hb
  have g7 := put7_gr w Rb v0 v1 v2 v3 v4 v5 v6
  have hR := h.hR
  have hX := h.hX
  have hG := h.hG
  refine ⟨Gr.low h.g g7 (fun k hk hS => by omega), .inl ⟨hc, .slice a m c, rfl, h.V.block (g7.block G h.V.lt (by omega)), (h.N.block fun b hb => g7.block b (h.N.lt b hb) (by have := (h.hm b hb).1; omega)).mono b1, b2, b4 hc, b5, ndF_kids (Fw.low (Fw.gr hF g7 (fun k hk => by omega)) (by omega)) _ _ _ _ _ _, _, _, _, rfl⟩⟩
/-- Ahead of the size. -/
def MidQ (W0 W : World) (G : Nat) (mo : Option Nat) (fm : Value) (s : ByteArray) (Rb X : Nat) (nm : ByteArray) (kd : Int) (p0 K k : Nat) (R : Nd × Vw × Nf) (w : World) : Prop :=
  ∃ (σ' : Vw) (f' : Nf) (K' : Nat) (n : Int) (t : ByteArray) (kids : List Nd) (a : Option Addr) (m c : Nat),
    Hid (QS W0 W G mo fm s Rb X σ' f' K' [.string nm, .int .i64 kd, .int .i64 (p0 : Nat), .int .i64 0, .int .i64 n, .string t, .slice a m c] w) ∧ Hid (NdsF (X + 1) w kids (.slice a m c)) ∧ Hid (R = (.mk nm kd p0 ((σ'.p : Int) - (p0 : Int)) n t kids, σ', f'))
    ∧ Hid (Bds s K k K' σ' ∧ σ'.c = 0)
end
set_option maxRecDepth 100000 in
theorem pone_results (tmps : Array Value) (w : World) (R : Nat) (v0 v1 v2 v3 v4 v5 v6 : Value) (h4 : tmps.getD 6 undef = .pointer (some ⟨R, 0, none⟩)) (c0 : w.cell? ⟨R, 0, none⟩ = some v0) (c1 : w.cell? ⟨R, 1, none⟩ = some v1) (c2 : w.cell? ⟨R, 2, none⟩ = some v2) (c3 : w.cell? ⟨R, 3, none⟩ = some v3) (c4 : w.cell? ⟨R, 4, none⟩ = some v4) (c5 : w.cell? ⟨R, 5, none⟩ = some v5) (c6 : w.cell? ⟨R, 6, none⟩ = some v6) :
    (results Tryz.f40 tmps).run Tryz.prog w = .ok (.agg #[v0, v1, v2, v3, v4, v5, v6]) w := by
  have h4' : tmps[6]?.getD undef = .pointer (some ⟨R, 0, none⟩) := by simpa using h4
  simp only [results, Tryz.f40]
  simp [go_sem, h4', c0, c1, c2, c3, c4, c5, c6]
set_option maxRecDepth 100000 in
theorem pmany_results (tmps : Array Value) (w : World) (R : Nat) (v0 v1 v2 v3 v4 v5 v6 : Value) (h4 : tmps.getD 6 undef = .pointer (some ⟨R, 0, none⟩)) (c0 : w.cell? ⟨R, 0, none⟩ = some v0) (c1 : w.cell? ⟨R, 1, none⟩ = some v1) (c2 : w.cell? ⟨R, 2, none⟩ = some v2) (c3 : w.cell? ⟨R, 3, none⟩ = some v3) (c4 : w.cell? ⟨R, 4, none⟩ = some v4) (c5 : w.cell? ⟨R, 5, none⟩ = some v5) (c6 : w.cell? ⟨R, 6, none⟩ = some v6) :
    (results Tryz.f124 tmps).run Tryz.prog w = .ok (.agg #[v0, v1, v2, v3, v4, v5, v6]) w := by
  have h4' : tmps[6]?.getD undef = .pointer (some ⟨R, 0, none⟩) := by simpa using h4
  simp only [results, Tryz.f124]
  simp [go_sem, h4', c0, c1, c2, c3, c4, c5, c6]
theorem call_flip {fn : FuncId} {args : Array Value} {W : World} {v : Ending} (h : Calls Tryz.prog fn args W fun e w' => e = v ∧ W = w') : Calls Tryz.prog fn args W fun e w' => e = v ∧ w' = W := h.mono fun _ _ q => ⟨q.1, q.2.symm⟩
theorem bytV_size (s : ByteArray) (n : Int) (v : Vw) (hp : v.p ≤ s.size) (h : (bytV s n v).2.c = 0) : ((bytV s n v).1.size : Int) = n := by
  have hO := offV_ok (s := s) (v := v) (n := n) hp
  unfold bytV cutV at h ⊢
  by_cases hc : (offV s n v).c = 0
  · obtain ⟨e, h0, h1⟩ := hO hc
    rw [e] at hc ⊢
    rw [if_neg (by simp [hc])]
    show ((s.extract v.p (v.p + n.toNat)).size : Int) = n
    rw [Word.extract_size s v.p (v.p + n.toNat) (by omega) (by omega)]
    omega
  · rw [if_pos hc] at h
    exact absurd h hc
theorem run_at {P : Program} {ops : Array Oper} {Q : Exit → Act → World → Prop} {md : Region.Mode} {S : World → Prop} {z f : Nat} {li : Array Bool} {a : Act} {w : World} (li' : Array Bool) (h : li = li') (H : Hld.Run P md ops Q S z f li' a w) : Hld.Run P md ops Q S z f li a w := by rw [h]; exact H
end Go.Proofs.YtkopjmofdnlplaaGreatDoor.Ly
