/-
  PROVED HERE: the program's spans.Not. Conditions: as each theorem states.
-/
import Derived.Test.YthpenogkejoljaaSpE
import Derived.Test.YthpenogkejoljaaSpS
import Derived.Test.YthpenogkejoljaaSpL
namespace Go.Proofs.Ythpenogkejoljaa.Sp
open Go.RowKit
theorem keep_x2 {wx w4 : World} {X n : Nat} {a : Value} {o : Obj} {row : Option Nat} (h : wx.cell? ⟨X, n, none⟩ = some a) (hg : (wx.alloc o).grownBy w4 row) (hne : row = some X → False) : w4.cell? ⟨X, n, none⟩ = some a := by
  have hl := World.block_lt_of_cell? wx _ h
  have h1 : (wx.alloc o).cell? ⟨X, n, none⟩ = some a := (World.cell?_alloc_lt _ _ _ hl).trans h
  exact (World.cell?_of_block (hg.block X (by simp; exact Nat.lt_succ_of_lt hl) (fun e => hne e.symm))).trans h1
def NotP (r : List Spn) (n : Int) (w : World) (e : Ending) (w' : World) : Prop := ∃ v o, e = .returned v ∧ Sps w' v o ∧ Rt o ∧ (∀ a, Hs o a ↔ 0 ≤ a ∧ (a < n ∧ ¬ Hs r a)) ∧ o.length ≤ r.length + 1 ∧ Below w.heap.size w w'
set_option maxRecDepth 100000 in
set_option maxHeartbeats 4000000 in
theorem not_any (w : World) (v : Value) (l r : List Spn) (n : Int) (h : Sps w v l) (hb : ∀ x ∈ l, I64 x.1 ∧ I64 x.2) (hn : l.length ≤ 10000) (hr : Same l r) : Calls Try.prog 22 #[v, .int .i64 n] w (NotP r n w) := by
  have C1 := Lib.hid (of_any w v l h hb hn)
  have HR := Lib.hid hr
  obtain ⟨a, cap, rfl, -⟩ := h
  clear hb hr
  go_enter Try.func22, Try.ntmps22
  go_wp2_with fail
  refine C1.out.mono ?_; rintro e w1 ⟨v1, r', rfl, h1, h2, h3, _, h5⟩
  obtain rfl : r = r' := HR.out.one h2
  have U := Lib.hid h1
  have HB1 := Lib.hid h5
  obtain ⟨b, cp, rfl, -⟩ := h1
  clear C1 h2 h5
  go_wp2_with fail
  go_loopw [5, 6, 12] (fun u s6 i wr => ∃ (k : Nat) (at_ : Int) (o : List Spn), k ≤ r.length ∧ i = .int .i64 (k : Int) ∧ s6 = .int .i64 at_ ∧ (∃ p c, u = .slice p o.length c) ∧ o.length ≤ k ∧ Hid (Nt r n k at_ o) ∧ Hid (OwnS wr w1.heap.size u o ∧ Below w1.heap.size w1 wr)) (fun _ _ i _ => r.length - (intOf i).toNat)
  case atStart => exact ⟨0, 0, [], Nat.zero_le _, rfl, rfl, ⟨_, _, rfl⟩, Nat.le_refl _, Lib.hid (nt_zero HR.out.1 n), Lib.hid ⟨ownS_nil _ _, Below.refl _ _⟩⟩
  case round =>
    obtain ⟨k, at_, o, hk, rfl, rfl, ⟨p2, c2, rfl⟩, hol, hN, hO⟩ := hrel
    by_cases hlt : k < r.length
    · obtain ⟨ad, rfl, x0, x1⟩ := U.out.at_ k hlt
      have i1 : (0 : Int) ≤ (k : Int) := by omega
      have i2 : (k : Int) < (r.length : Int) := by omega
      have z0 := keepCell hO.out.2 x0
      have z1 := keepCell hO.out.2 x1
      have hNN := Lib.hid (nt_next HR.out.1 hN.out hlt)
      have HKX := Lib.hid (fun (hx : n ≤ r[k].1) => (show ∀ j, ∀ h : j < r.length, k ≤ j → n ≤ r[j].1 from fun j hj hkj => by
        rcases Nat.lt_or_ge k j with c | c
        · have q1 := HR.out.1.order c hj
          have q2 := HR.out.1.1 _ (List.getElem_mem hlt)
          omega
        · obtain rfl : j = k := by omega
          exact hx))
      clear x0 x1
      generalize r[k] = x at *
      obtain ⟨xf, xt⟩ := x
      simp only at z0 z1 hNN HKX
      have hO9 := Lib.hid (And.intro (hO.out.1.alloc (.cells #[.int .i64 xf, .int .i64 xt] 26)) (hO.out.2.alloc hO.out.2.size (.cells #[.int .i64 xf, .int .i64 xt] 26)))
      have e0 : (wr.alloc (.cells #[.int .i64 xf, .int .i64 xt] 26)).cell? ⟨wr.heap.size, 0, none⟩ = some (.int .i64 xf) := by rw [World.cell?_alloc_new]; rfl
      have e1 : (wr.alloc (.cells #[.int .i64 xf, .int .i64 xt] 26)).cell? ⟨wr.heap.size, 1, none⟩ = some (.int .i64 xt) := by rw [World.cell?_alloc_new]; rfl
      have hap := Lib.hid (fun e => Nat.lt_irrefl _ (World.ownsRow.lt hO.out.1 wr.heap.size e).2)
      go_upto_region 6 with fail
      generalize wr.alloc (.cells #[.int .i64 xf, .int .i64 xt] 26) = wx at *
      generalize wr.heap.size = X at *
      clear hO z0 z1
      by_cases hx : n ≤ xf
      · have dx : decide (n ≤ xf) = true := decide_eq_true hx
        have HKK := HKX.out hx
        clear hNN HKX
        have hdn := nt_done HR.out.1 hN.out HKK
        by_cases hat : at_ < n
        · have dn : decide (at_ < n) = true := decide_eq_true hat
          rw [if_pos hat] at hdn
          have HDN := Lib.hid hdn
          clear hdn hN HKK
          go_wp2_with (at_builtin; refine ownS_append1 rfl _ _ rfl w1.heap.size _ o rfl (hO9.out.1.alloc _) wx.heap.size _ (at_, n) rfl (heap_alloc_new wx _) (by omega) (by have := hO9.out.2.size; simp <;> omega) ?_; intro v4 w4 ho4 hg4 hb4 hat4; have hO4 := Lib.hid (And.intro ho4 ((hO9.out.2.alloc hO9.out.2.size _).trans hb4)); clear ho4 hg4 hb4 hat4)
          have HB4 := Lib.hid (HB1.out.trans (hO4.out.2.mono HB1.out.size))
          go_wp2_with fail
          go_ret
          exact ⟨_, _, rfl, hO4.out.1.sps, HDN.out.1, HDN.out.2, by rw [List.length_append]; simp only [List.length_cons, List.length_nil]; omega, HB4.out⟩
        · have dn : decide (at_ < n) = false := decide_eq_false hat
          rw [if_neg hat] at hdn
          have HDN := Lib.hid hdn
          have HB4 := Lib.hid (HB1.out.trans (hO9.out.2.mono HB1.out.size))
          clear hdn hN HKK
          go_wp2_with fail
          go_ret
          exact ⟨_, _, rfl, hO9.out.1.sps, HDN.out.1, HDN.out.2, by omega, HB4.out⟩
      · have dx : decide (n ≤ xf) = false := decide_eq_false hx
        have hN1 := hNN.out (by omega)
        clear hNN HKX hN
        by_cases hg : at_ < xf
        · have dg : decide (at_ < xf) = true := decide_eq_true hg
          rw [if_pos hg] at hN1
          have hN2 := Lib.hid hN1
          clear hN1
          go_wp2_with (at_builtin; refine ownS_append1 rfl _ _ rfl w1.heap.size _ o rfl (hO9.out.1.alloc _) wx.heap.size _ (at_, xf) rfl (heap_alloc_new wx _) (by omega) (by have := hO9.out.2.size; simp <;> omega) ?_; intro v4 w4 ho4 hg4 hb4 hat4; have k1 := keep_x2 e1 hg4 hap.out; have hO4 := Lib.hid (And.intro ho4 ((hO9.out.2.alloc hO9.out.2.size _).trans hb4)); clear ho4 hg4 hb4 hat4)
          have LEN := hO4.out.1.len
          go_wp2_with fail
          go_roundw
          case rel => first | exact ⟨k + 1, xt, o ++ [(at_, xf)], by omega, by go_num, rfl, LEN, by simp; omega, hN2, hO4⟩ | ((repeat apply Exists.intro); exact ⟨⟨k + 1, xt, o ++ [(at_, xf)], by omega, by go_num, rfl, LEN, by simp; omega, hN2, hO4⟩, rfl⟩)
          case measure => simp [intOf]; omega
        · have dg : decide (at_ < xf) = false := decide_eq_false hg
          rw [if_neg hg] at hN1
          have hN2 := Lib.hid hN1
          clear hN1
          have LEN := hO9.out.1.len
          go_wp2_with fail
          go_roundw
          case rel => first | exact ⟨k + 1, xt, o, by omega, by go_num, rfl, LEN, by omega, hN2, hO9⟩ | ((repeat apply Exists.intro); exact ⟨⟨k + 1, xt, o, by omega, by go_num, rfl, LEN, by omega, hN2, hO9⟩, rfl⟩)
          case measure => simp [intOf]; omega
    · have hkr : k = r.length := by omega
      have HKK : ∀ j, ∀ h : j < r.length, k ≤ j → n ≤ r[j].1 := fun j hj hkj => absurd hj (by omega)
      have kd : decide ((k : Int) < (r.length : Int)) = false := decide_eq_false (by omega)
      have hO9 := hO
      have hdn := nt_done HR.out.1 hN.out HKK
      by_cases hat : at_ < n
      · have dn : decide (at_ < n) = true := decide_eq_true hat
        rw [if_pos hat] at hdn
        have HDN := Lib.hid hdn
        clear hdn hN HKK
        go_wp2_with (at_builtin; refine ownS_append1 rfl _ _ rfl w1.heap.size _ o rfl (hO9.out.1.alloc _) wr.heap.size _ (at_, n) rfl (heap_alloc_new wr _) (by omega) (by have := hO9.out.2.size; simp <;> omega) ?_; intro v4 w4 ho4 hg4 hb4 hat4; have hO4 := Lib.hid (And.intro ho4 ((hO9.out.2.alloc hO9.out.2.size _).trans hb4)); clear ho4 hg4 hb4 hat4)
        have HB4 := Lib.hid (HB1.out.trans (hO4.out.2.mono HB1.out.size))
        go_wp2_with fail
        go_ret
        exact ⟨_, _, rfl, hO4.out.1.sps, HDN.out.1, HDN.out.2, by rw [List.length_append]; simp only [List.length_cons, List.length_nil]; omega, HB4.out⟩
      · have dn : decide (at_ < n) = false := decide_eq_false hat
        rw [if_neg hat] at hdn
        have HDN := Lib.hid hdn
        have HB4 := Lib.hid (HB1.out.trans (hO9.out.2.mono HB1.out.size))
        clear hdn hN HKK
        go_wp2_with fail
        go_ret
        exact ⟨_, _, rfl, hO9.out.1.sps, HDN.out.1, HDN.out.2, by omega, HB4.out⟩
end Go.Proofs.Ythpenogkejoljaa.Sp
