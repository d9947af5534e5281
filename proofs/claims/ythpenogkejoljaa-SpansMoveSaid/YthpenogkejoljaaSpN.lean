/-
  PROVED HERE: the law SpansMove returns true. Conditions: as each theorem states.
-/
import Derived.Test.YthpenogkejoljaaSpM
namespace Go.Proofs.Ythpenogkejoljaa.Sp
open Go.RowKit
set_option maxRecDepth 100000 in
set_option maxHeartbeats 8000000 in
theorem move_walk (v : Value) (l : List Spn) (p at_ out inn : Int) (W : World) (h : Sps W v l) (hb : ∀ x ∈ l, I64 x.1 ∧ I64 x.2) :
    Calls Try.prog 3 #[v, .int .i64 p, .int .i64 at_, .int .i64 out, .int .i64 inn] W fun e w' => e = .returned (.bool true) ∧ Below W.heap.size W w' := by
  have H := Lib.hid h
  have HB := Lib.hid hb
  obtain ⟨a, cap, rfl, -⟩ := h
  clear hb
  by_cases hm : (60 : Int) < (l.length : Int)
  · have C0 := Lib.hid (by have := many_any W a l.length cap; rw [decide_eq_true hm] at this; exact this)
    go_enter Try.func3, Try.ntmps3
    go_wp2_with fail
    refine C0.out.mono ?_; rintro e w1 ⟨rfl, rfl⟩
    go_wp2_with fail
    go_ret
    exact ⟨rfl, Below.refl _ _⟩
  have C0 := Lib.hid (by have := many_any W a l.length cap; rw [decide_eq_false hm] at this; exact this)
  go_enter Try.func3, Try.ntmps3
  go_wp2_with fail
  refine C0.out.mono ?_; rintro e w1 ⟨rfl, rfl⟩
  by_cases c0 : p < 0
  · have d0 : decide (p < 0) = true := decide_eq_true c0
    go_wp2_with fail
    go_ret
    exact ⟨rfl, Below.refl _ _⟩
  have d0 : decide (p < 0) = false := decide_eq_false c0
  by_cases c1 : 1099511627776 < p
  · have d1 : decide (1099511627776 < p) = true := decide_eq_true c1
    go_wp2_with fail
    go_ret
    exact ⟨rfl, Below.refl _ _⟩
  have d1 : decide (1099511627776 < p) = false := decide_eq_false c1
  by_cases c2 : at_ < 0
  · have d2 : decide (at_ < 0) = true := decide_eq_true c2
    go_wp2_with fail
    go_ret
    exact ⟨rfl, Below.refl _ _⟩
  have d2 : decide (at_ < 0) = false := decide_eq_false c2
  by_cases c3 : 1099511627776 < at_
  · have d3 : decide (1099511627776 < at_) = true := decide_eq_true c3
    go_wp2_with fail
    go_ret
    exact ⟨rfl, Below.refl _ _⟩
  have d3 : decide (1099511627776 < at_) = false := decide_eq_false c3
  by_cases c4 : out < 0
  · have d4 : decide (out < 0) = true := decide_eq_true c4
    go_wp2_with fail
    go_ret
    exact ⟨rfl, Below.refl _ _⟩
  have d4 : decide (out < 0) = false := decide_eq_false c4
  by_cases c5 : 1099511627776 < out
  · have d5 : decide (1099511627776 < out) = true := decide_eq_true c5
    go_wp2_with fail
    go_ret
    exact ⟨rfl, Below.refl _ _⟩
  have d5 : decide (1099511627776 < out) = false := decide_eq_false c5
  by_cases c6 : inn < 0
  · have d6 : decide (inn < 0) = true := decide_eq_true c6
    go_wp2_with fail
    go_ret
    exact ⟨rfl, Below.refl _ _⟩
  have d6 : decide (inn < 0) = false := decide_eq_false c6
  by_cases c7 : 1099511627776 < inn
  · have d7 : decide (1099511627776 < inn) = true := decide_eq_true c7
    go_wp2_with fail
    go_ret
    exact ⟨rfl, Below.refl _ _⟩
  have d7 : decide (1099511627776 < inn) = false := decide_eq_false c7
  have hp : In40 p := by unfold In40; omega
  have ha : In40 at_ := by unfold In40; omega
  have ho : In40 out := by unfold In40; omega
  have hi : In40 inn := by unfold In40; omega
  have hll : l.length ≤ 60 := by omega
  have C1 := Lib.hid (spansOf_any w1 _ l H.out HB.out (by omega))
  clear c0 c1 c2 c3 c4 c5 c6 c7 hm C0
  go_wp2_with fail
  refine C1.out.mono ?_; rintro e w2 ⟨v1, r, rfl, h1, h2, h3, _, h5⟩
  have HR := Lib.hid h2
  have U := Lib.hid h1
  have HB1 := Lib.hid h5
  obtain ⟨b, cp, rfl, -⟩ := h1
  clear C1 h2 h5 d0 d1 d2 d3 d4 d5 d6 d7
  go_wp2_with fail
  go_loopw [11, 51] (fun u i wr => ∃ (k : Nat) (m : List Spn), k ≤ r.length ∧ i = .int .i64 (k : Int) ∧ (∃ p c, u = .slice p m.length c) ∧ Hid (m = (r.take k).map (mvS at_ out inn)) ∧ Hid (∀ x ∈ r.take k, x.2 ≤ 1099511627776) ∧ Hid (OwnS wr w2.heap.size u m ∧ Below w2.heap.size w2 wr)) (fun _ i _ => r.length - (intOf i).toNat)
  case atStart => exact ⟨0, [], Nat.zero_le _, rfl, ⟨_, _, rfl⟩, Lib.hid rfl, Lib.hid (fun x hx => by simp at hx), Lib.hid ⟨ownS_nil _ _, Below.refl _ _⟩⟩
  case round =>
    obtain ⟨k, m, hk, rfl, ⟨p2, c2, rfl⟩, hM, hT, hO⟩ := hrel
    have hml : m.length ≤ r.length := by rw [hM.out, List.length_map, List.length_take]; omega
    by_cases hlt : k < r.length
    · obtain ⟨ad, rfl, x0, x1⟩ := U.out.at_ k hlt
      have i1 : (0 : Int) ≤ (k : Int) := by omega
      have i2 : (k : Int) < (r.length : Int) := by omega
      have z0 := keepCell hO.out.2 x0
      have z1 := keepCell hO.out.2 x1
      have hF := map_snoc r k hlt at_ out inn
      clear x0 x1
      have hgd := HR.out.1.1 r[k] (List.getElem_mem hlt)
      have hT2 := Lib.hid (fun (hx : r[k].2 ≤ 1099511627776) => (show ∀ x ∈ r.take (k + 1), x.2 ≤ 1099511627776 from fun x hx' => by
        rw [List.take_succ_eq_append_getElem hlt] at hx'
        rcases List.mem_append.1 hx' with hx' | hx'
        · exact hT.out x hx'
        · obtain rfl := List.mem_singleton.1 hx'
          exact hx))
      generalize r[k] = x at *
      obtain ⟨xf, xt⟩ := x
      simp only at z0 z1 hF hgd
      rw [← hM.out] at hF
      have hM2 := Lib.hid hF.symm
      clear hF
      have e0 : (wr.alloc (.cells #[.int .i64 xf, .int .i64 xt] 26)).cell? ⟨wr.heap.size, 0, none⟩ = some (.int .i64 xf) := by rw [World.cell?_alloc_new]; rfl
      have e1 : (wr.alloc (.cells #[.int .i64 xf, .int .i64 xt] 26)).cell? ⟨wr.heap.size, 1, none⟩ = some (.int .i64 xt) := by rw [World.cell?_alloc_new]; rfl
      have hap := Lib.hid (fun e => Nat.lt_irrefl _ (World.ownsRow.lt hO.out.1 wr.heap.size e).2)
      have hOx := Lib.hid (And.intro (hO.out.1.alloc (.cells #[.int .i64 xf, .int .i64 xt] 26)) (hO.out.2.alloc hO.out.2.size (.cells #[.int .i64 xf, .int .i64 xt] 26)))
      by_cases hx : 1099511627776 < xt
      · have dx : decide (1099511627776 < xt) = true := decide_eq_true hx
        have hBx := Lib.hid (HB1.out.trans (hOx.out.2.mono HB1.out.size))
        go_wp2_with fail
        go_ret
        exact ⟨rfl, hBx.out⟩
      · have dx : decide (1099511627776 < xt) = false := decide_eq_false hx
        have hT3 := Lib.hid (hT2.out (by simp only; omega))
        have b0 : In40 xf := by unfold In40; omega
        have b1 : In40 xt := by unfold In40; omega
        have MC0 := Lib.hid (fun W' => docMoved_any W' xf at_ out inn b0 ha ho hi)
        have MC1 := Lib.hid (fun W' => docMoved_any W' xt at_ out inn b1 ha ho hi)
        go_upto_region 9 with fail
        generalize wr.alloc (.cells #[.int .i64 xf, .int .i64 xt] 26) = wx at *
        generalize wr.heap.size = X at *
        clear hO z0 z1 hT2 hT hx hgd
        go_region_held3 (fun w' => w'.cell? ⟨X, 0, none⟩ = some (.int .i64 xf) ∧ w'.cell? ⟨X, 1, none⟩ = some (.int .i64 xt)) (first | exact ⟨k0, k1⟩ | (go_split_ands; refine ⟨?_, ?_⟩ <;> assumption) | go_keep)
          (first
            | (go_at_call 7; (first | (with_reducible refine (MC0.out _).mono ?_) | (with_reducible refine (MC1.out _).mono ?_)); rintro e w' ⟨rfl, rfl⟩)
            | (refine ownS_append_step (by rfl) _ _ (by rfl) w2.heap.size _ _ rfl (hOx.out.1.alloc _).drew wx.heap.size _ (mv xf at_ out inn, mv xt at_ out inn) rfl (heap_alloc_new wx _) (by omega) (by have := hOx.out.2.size; simp <;> omega) ?_; intro v4 w4 ho4 hg4 hb4 hat4; have k0 := keep_x e0 hg4 hap.out; have k1 := keep_x e1 hg4 hap.out; have hO4 := Lib.hid (And.intro ho4 ((hOx.out.2.alloc hOx.out.2.size _).drew.trans hb4)); clear ho4 hg4 hb4 hat4)
            | (refine ownS_append_step (by rfl) _ _ (by rfl) w2.heap.size _ _ rfl (hOx.out.1.drew.alloc _) wx.drew.heap.size _ (mv xf at_ out inn, mv xt at_ out inn) rfl (heap_alloc_new wx.drew _) (by omega) (by have := hOx.out.2.size; simp <;> omega) ?_; intro v4 w4 ho4 hg4 hb4 hat4; have k0 := keep_x e0 hg4 hap.out; have k1 := keep_x e1 hg4 hap.out; have hO4 := Lib.hid (And.intro ho4 ((hOx.out.2.drew.alloc (w := wx.drew) hOx.out.2.size _).trans hb4)); clear ho4 hg4 hb4 hat4))
        all_goals
          go_wp2_with fail
          have LEN := hO4.out.1.len
          go_roundw
          case rel => first | exact ⟨k + 1, _, by omega, by go_num, LEN, hM2, hT3, hO4⟩ | ((repeat apply Exists.intro); exact ⟨⟨k + 1, _, by omega, by go_num, LEN, hM2, hT3, hO4⟩, rfl⟩)
          case measure => simp [intOf]; omega
    · have hkr : k = r.length := by omega
      have hm2 := hM.out
      have ht2 := hT.out
      rw [hkr, List.take_length] at hm2 ht2
      have HBD : ∀ x ∈ r, In40 x.1 ∧ In40 x.2 := fun x hx => by
        have q1 := HR.out.1.1 x hx
        have q2 := ht2 x hx
        unfold In40
        omega
      have HBW := Lib.hid (HB1.out.trans (hO.out.2.mono HB1.out.size))
      have S5 := Lib.hid (shift_any wr _ l r at_ out inn (H.out.below HBW.out) HB.out (by omega) HR.out HBD ha ho hi)
      have D5 := Lib.hid (fun w5 (hB5 : Below wr.heap.size wr w5) => spansOf_any w5 (.slice p2 m.length c2) m (hO.out.1.sps.below hB5) (by rw [hm2]; exact map_fit HBD ha ho hi) (by omega))
      have M1 := Lib.hid (fun W' => moved_any W' p at_ out inn hp ha ho hi)
      have M2 := Lib.hid (fun W' => docMoved_any W' p at_ out inn hp ha ho hi)
      have HM2 := Lib.hid hm2
      have kd : decide ((k : Int) < (r.length : Int)) = false := decide_eq_false (by omega)
      generalize mv p at_ out inn = Mv at *
      have hmm : (Mv == Mv) = true := by simp
      clear hm2 ht2 hM hT HBD U hO
      go_wp2_with fail
      refine (M1.out _).mono ?_; rintro e w3 ⟨rfl, rfl⟩
      go_wp2_with fail
      refine (M2.out _).mono ?_; rintro e w4 ⟨rfl, rfl⟩
      go_wp2_with fail
      refine S5.out.mono ?_; rintro e w5 ⟨v5, r5, rfl, q1, q2, q3, q4, q5⟩
      have Q1 := Lib.hid q1
      have Q2 := Lib.hid q2
      have Q3 := Lib.hid q3
      have Q5 := Lib.hid q5
      have D6 := Lib.hid (D5.out w5 q5)
      clear q1 q2 q3 q4 q5 S5 D5
      go_wp2_with fail
      refine D6.out.mono ?_; rintro e w6 ⟨v6, r6, rfl, q1, q2, q3, q4, q5⟩
      have hrr : r5 = r6 := Same.one (HM2.out ▸ Q2.out) q2
      have hln : r5.length ≤ 1000 := by have := Q3.out; rw [List.length_map] at this; omega
      have SA := Lib.hid (same_any w6 v5 v6 r5 (Q1.out.below q5) (hrr ▸ q1) (by omega))
      have HB6 := Lib.hid ((HBW.out.trans (Q5.out.mono HBW.out.size)).trans (q5.mono (Nat.le_trans HBW.out.size Q5.out.size)))
      clear q1 q2 q3 q4 q5 hrr D6 Q1 Q2 Q3
      go_wp2_with fail
      refine SA.out.mono ?_; rintro e w7 ⟨rfl, hb7⟩
      have HB7 := Lib.hid (HB6.out.trans (hb7.mono HB6.out.size))
      clear hb7
      go_wp2_with fail
      go_ret
      exact ⟨rfl, HB7.out⟩
end Go.Proofs.Ythpenogkejoljaa.Sp
