/-
  PROVED HERE: the program's spans.And. Conditions: as each theorem states.
-/
import Derived.Test.YthpenogkejoljaaSpT
import Derived.Test.YthpenogkejoljaaSpU
namespace Go.Proofs.Ythpenogkejoljaa.Sp
open Go.RowKit
theorem An.yes {a b : List Spn} {i j : Nat} {c : Prop} {inst : Decidable c} {x y : List Spn} (h : An a b i j (@ite _ c inst x y)) (hc : c) : An a b i j x := by
  rw [if_pos hc] at h
  exact h
theorem An.no {a b : List Spn} {i j : Nat} {c : Prop} {inst : Decidable c} {x y : List Spn} (h : An a b i j (@ite _ c inst x y)) (hc : ¬ c) : An a b i j y := by
  rw [if_neg hc] at h
  exact h
def AndP (a b : List Spn) (w : World) (e : Ending) (w' : World) : Prop := ∃ v o, e = .returned v ∧ Sps w' v o ∧ Rt o ∧ (∀ t, Hs o t ↔ Hs a t ∧ Hs b t) ∧ o.length ≤ a.length + b.length ∧ Below w.heap.size w w'
set_option maxRecDepth 100000 in
set_option maxHeartbeats 4000000 in
theorem and_any (w : World) (va vb : Value) (la lb a b : List Spn) (h : Sps w va la) (h' : Sps w vb lb) (hb : ∀ x ∈ la, I64 x.1 ∧ I64 x.2) (hb' : ∀ x ∈ lb, I64 x.1 ∧ I64 x.2) (hn : la.length ≤ 10000) (hn' : lb.length ≤ 10000) (hr : Same la a) (hr' : Same lb b) :
    Calls Try.prog 21 #[va, vb] w (AndP a b w) := by
  have C1 := Lib.hid (of_any w va la h hb hn)
  have C2 := Lib.hid (fun W (hW : Below w.heap.size w W) => of_any W vb lb (h'.below hW) hb' hn')
  have HR := Lib.hid hr
  have HR2 := Lib.hid hr'
  obtain ⟨p1, k1, rfl, -⟩ := h
  obtain ⟨p2, k2, rfl, -⟩ := h'
  clear hb hb' hr hr'
  go_enter Try.func21, Try.ntmps21
  go_wp2_with fail
  refine C1.out.mono ?_; rintro e w1 ⟨v1, r1, rfl, s1, s2, s3, _, s5⟩
  obtain rfl : a = r1 := HR.out.one s2
  have U1 := Lib.hid s1
  have B1 := Lib.hid s5
  have C3 := Lib.hid (C2.out w1 s5)
  obtain ⟨_, _, rfl, -⟩ := s1
  clear C1 C2 s2 s5
  go_wp2_with fail
  refine C3.out.mono ?_; rintro e w2 ⟨v2, r2, rfl, t1, t2, t3, _, t5⟩
  obtain rfl : b = r2 := HR2.out.one t2
  have UA := Lib.hid (U1.out.below t5)
  have UB := Lib.hid t1
  have B2 := Lib.hid (B1.out.trans (t5.mono B1.out.size))
  obtain ⟨_, _, rfl, -⟩ := t1
  clear C3 t2 t5 U1 B1
  go_wp2_with fail
  go_loopw [5, 6, 7] (fun u s6 s7 wr => ∃ (i j : Nat) (o : List Spn), i ≤ a.length ∧ j ≤ b.length ∧ s6 = .int .i64 (i : Int) ∧ s7 = .int .i64 (j : Int) ∧ (∃ p c, u = .slice p o.length c) ∧ o.length ≤ i + j ∧ Hid (An a b i j o) ∧ Hid (OwnS wr w2.heap.size u o ∧ Below w2.heap.size w2 wr)) (fun _ s6 s7 _ => (a.length - (intOf s6).toNat) + (b.length - (intOf s7).toNat))
  case atStart => exact ⟨0, 0, [], Nat.zero_le _, Nat.zero_le _, rfl, rfl, ⟨_, _, rfl⟩, Nat.zero_le _, Lib.hid (an_zero a b), Lib.hid ⟨ownS_nil _ _, Below.refl _ _⟩⟩
  case round =>
    obtain ⟨i, j, o, hi, hj, rfl, rfl, ⟨p3, c3, rfl⟩, hol, hAn, hO⟩ := hrel
    by_cases hli : i < a.length
    · by_cases hlj : j < b.length
      · obtain ⟨ad, ea, x0, x1⟩ := UA.out.at_ i hli
        obtain ⟨bd, eb, y0, y1⟩ := UB.out.at_ j hlj
        subst ea eb
        have i1 : (0 : Int) ≤ (i : Int) := by omega
        have i2 : (i : Int) < (a.length : Int) := by omega
        have i3 : (0 : Int) ≤ (j : Int) := by omega
        have i4 : (j : Int) < (b.length : Int) := by omega
        have hAi := Lib.hid (an_i HR.out.1 HR2.out.1 hAn.out hli hlj)
        have hAj := Lib.hid (an_j HR.out.1 HR2.out.1 hAn.out hli hlj)
        clear hAn
        generalize a[i] = x at *
        generalize b[j] = y at *
        obtain ⟨xf, xt⟩ := x
        obtain ⟨yf, yt⟩ := y
        simp only [meet] at x0 x1 y0 y1 hAi hAj
        have SK := Lib.hid (fun W' (hW : Below w2.heap.size w2 W') => (show W'.cell? (ad.add (i * 2)) = some (.int .i64 xf) ∧ W'.cell? ⟨(ad.add (i * 2)).block, (ad.add (i * 2)).off + 1, none⟩ = some (.int .i64 xt) ∧ W'.cell? (bd.add (j * 2)) = some (.int .i64 yf) ∧ W'.cell? ⟨(bd.add (j * 2)).block, (bd.add (j * 2)).off + 1, none⟩ = some (.int .i64 yt) from ⟨keepCell hW x0, keepCell hW x1, keepCell hW y0, keepCell hW y1⟩))
        clear x0 x1 y0 y1
        go_upto_region 5 with fail
        go_region_held3 (fun W' => W'.cell? (ad.add (i * 2)) = some (.int .i64 xf) ∧ W'.cell? ⟨(ad.add (i * 2)).block, (ad.add (i * 2)).off + 1, none⟩ = some (.int .i64 xt) ∧ W'.cell? (bd.add (j * 2)) = some (.int .i64 yf) ∧ W'.cell? ⟨(bd.add (j * 2)).block, (bd.add (j * 2)).off + 1, none⟩ = some (.int .i64 yt))
          (first | exact SK.out _ hO.out.2.drew | exact SK.out _ (hO.out.2.alloc hO.out.2.size _).drew) (fail)
        all_goals
          obtain ⟨wx, hwx⟩ : ∃ wx, (wr.alloc (Obj.cells #[.int .i64 (max xf yf), .int .i64 (min xt yt)] 26)).drew = wx := ⟨_, rfl⟩
          rw [hwx]
          have e0 : wx.cell? ⟨wr.heap.size, 0, none⟩ = some (.int .i64 (max xf yf)) := by rw [← hwx]; show (wr.alloc _).cell? _ = _; rw [World.cell?_alloc_new]; rfl
          have e1 : wx.cell? ⟨wr.heap.size, 1, none⟩ = some (.int .i64 (min xt yt)) := by rw [← hwx]; show (wr.alloc _).cell? _ = _; rw [World.cell?_alloc_new]; rfl
          have hO9 := Lib.hid (show OwnS wx w2.heap.size (.slice p3 o.length c3) o ∧ Below w2.heap.size w2 wx from by rw [← hwx]; exact ⟨(hO.out.1.alloc _).drew, (hO.out.2.alloc hO.out.2.size _).drew⟩)
          clear hwx hO
          generalize wr.heap.size = X at *
          by_cases hc : max xf yf < min xt yt
          · have dc : decide (max xf yf < min xt yt) = true := decide_eq_true hc
            go_wp2_with (at_builtin; refine ownS_append1 rfl _ _ rfl w2.heap.size _ o rfl (hO9.out.1.alloc _) wx.heap.size _ (max xf yf, min xt yt) rfl (heap_alloc_new wx _) (by omega) (by have := hO9.out.2.size; simp <;> omega) ?_; intro v4 w4 ho4 hg4 hb4 hat4; have hO4 := Lib.hid (And.intro ho4 ((hO9.out.2.alloc hO9.out.2.size _).trans hb4)); clear ho4 hg4 hb4 hat4)
            have q := SK.out _ hO4.out.2
            obtain ⟨q1, q2, q3, q4⟩ := q
            by_cases hi2 : xt < yt
            · have di : decide (xt < yt) = true := decide_eq_true hi2
              have hA1 := (hAi.out hi2).yes hc
              have hA2 := Lib.hid hA1
              clear hAi hAj hA1
              go_upto_region 8 with fail
              go_quiet (fail)
              all_goals
                go_wp2_with fail
                have hB9 := Lib.hid (And.intro (hO4.out.1.drewN nq) (below_drewN hO4.out.2 nq))
                have LEN := hB9.out.1.len
                go_roundw
                case rel => first | exact ⟨i + 1, j, o ++ [(max xf yf, min xt yt)], by omega, by omega, by go_num, by go_num, LEN, by simp; omega, hA2, hB9⟩ | ((repeat apply Exists.intro); exact ⟨⟨i + 1, j, o ++ [(max xf yf, min xt yt)], by omega, by omega, by go_num, by go_num, LEN, by simp; omega, hA2, hB9⟩, rfl⟩)
                case measure => simp [intOf]; omega
            · have di : decide (xt < yt) = false := decide_eq_false hi2
              have hA1 := (hAj.out (by omega)).yes hc
              have hA2 := Lib.hid hA1
              clear hAi hAj hA1
              go_upto_region 8 with fail
              go_quiet (fail)
              all_goals
                go_wp2_with fail
                have hB9 := Lib.hid (And.intro (hO4.out.1.drewN nq) (below_drewN hO4.out.2 nq))
                have LEN := hB9.out.1.len
                go_roundw
                case rel => first | exact ⟨i, j + 1, o ++ [(max xf yf, min xt yt)], by omega, by omega, by go_num, by go_num, LEN, by simp; omega, hA2, hB9⟩ | ((repeat apply Exists.intro); exact ⟨⟨i, j + 1, o ++ [(max xf yf, min xt yt)], by omega, by omega, by go_num, by go_num, LEN, by simp; omega, hA2, hB9⟩, rfl⟩)
                case measure => simp [intOf]; omega
          · have dc : decide (max xf yf < min xt yt) = false := decide_eq_false hc
            have q := SK.out _ hO9.out.2
            obtain ⟨q1, q2, q3, q4⟩ := q
            by_cases hi2 : xt < yt
            · have di : decide (xt < yt) = true := decide_eq_true hi2
              have hA1 := (hAi.out hi2).no hc
              have hA2 := Lib.hid hA1
              clear hAi hAj hA1
              go_upto_region 8 with fail
              go_quiet (fail)
              all_goals
                go_wp2_with fail
                have hB9 := Lib.hid (And.intro (hO9.out.1.drewN nq) (below_drewN hO9.out.2 nq))
                have LEN := hB9.out.1.len
                go_roundw
                case rel => first | exact ⟨i + 1, j, o, by omega, by omega, by go_num, by go_num, LEN, by omega, hA2, hB9⟩ | ((repeat apply Exists.intro); exact ⟨⟨i + 1, j, o, by omega, by omega, by go_num, by go_num, LEN, by omega, hA2, hB9⟩, rfl⟩)
                case measure => simp [intOf]; omega
            · have di : decide (xt < yt) = false := decide_eq_false hi2
              have hA1 := (hAj.out (by omega)).no hc
              have hA2 := Lib.hid hA1
              clear hAi hAj hA1
              go_upto_region 8 with fail
              go_quiet (fail)
              all_goals
                go_wp2_with fail
                have hB9 := Lib.hid (And.intro (hO9.out.1.drewN nq) (below_drewN hO9.out.2 nq))
                have LEN := hB9.out.1.len
                go_roundw
                case rel => first | exact ⟨i, j + 1, o, by omega, by omega, by go_num, by go_num, LEN, by omega, hA2, hB9⟩ | ((repeat apply Exists.intro); exact ⟨⟨i, j + 1, o, by omega, by omega, by go_num, by go_num, LEN, by omega, hA2, hB9⟩, rfl⟩)
                case measure => simp [intOf]; omega
      · have hkj : b.length ≤ j := by omega
        have d1 : decide ((i : Int) < (a.length : Int)) = true := decide_eq_true (by omega)
        have d2 : decide ((j : Int) < (b.length : Int)) = false := decide_eq_false (by omega)
        have HD := Lib.hid (an_done hAn.out (.inr hkj))
        have HB := Lib.hid (B2.out.trans (hO.out.2.mono B2.out.size))
        clear hAn
        go_wp2_with fail
        go_ret
        exact ⟨_, o, rfl, hO.out.1.sps, HD.out.1, HD.out.2, by omega, HB.out⟩
    · have hki : a.length ≤ i := by omega
      have d1 : decide ((i : Int) < (a.length : Int)) = false := decide_eq_false (by omega)
      have HD := Lib.hid (an_done hAn.out (.inl hki))
      have HB := Lib.hid (B2.out.trans (hO.out.2.mono B2.out.size))
      clear hAn
      go_wp2_with fail
      go_ret
      exact ⟨_, o, rfl, hO.out.1.sps, HD.out.1, HD.out.2, by omega, HB.out⟩
end Go.Proofs.Ythpenogkejoljaa.Sp
