/-
  PROVED HERE: the program's Shift, and the law SpansMove. Conditions: as each theorem states.
-/
import Derived.Test.YthpenogkejoljaaSpE
import Derived.Test.YthpenogkejoljaaSpL
namespace Go.Proofs.Ythpenogkejoljaa.Sp
open Go.RowKit
def mvS (at_ out inn : Int) (x : Spn) : Spn := (mv x.1 at_ out inn, mv x.2 at_ out inn)
theorem mv_bound {p at_ out inn : Int} (hp : In40 p) (ha : In40 at_) (ho : In40 out) (hi : In40 inn) : I64 (mv p at_ out inn) := by
  unfold In40 I64 mv at *
  split
  · omega
  split
  · omega
  split <;> omega
theorem keep_x {wx w4 : World} {X n : Nat} {a : Value} {o : Obj} {row : Option Nat} (h : wx.cell? ⟨X, n, none⟩ = some a) (hg : ((wx.alloc o).drew).grownBy w4 row) (hne : row = some X → False) : w4.cell? ⟨X, n, none⟩ = some a := by
  have hl := World.block_lt_of_cell? wx _ h
  have h1 : ((wx.alloc o).drew).cell? ⟨X, n, none⟩ = some a := (World.cell?_alloc_lt _ _ _ hl).trans h
  exact (World.cell?_of_block (hg.block X (by simp; exact Nat.lt_succ_of_lt hl) (fun e => hne e.symm))).trans h1
theorem map_snoc (r : List Spn) (k : Nat) (hk : k < r.length) (at_ out inn : Int) : (r.take (k + 1)).map (mvS at_ out inn) = (r.take k).map (mvS at_ out inn) ++ [(mv r[k].1 at_ out inn, mv r[k].2 at_ out inn)] := by
  rw [List.take_succ_eq_append_getElem hk, List.map_append]
  rfl
theorem map_fit {r : List Spn} {at_ out inn : Int} (h : ∀ x ∈ r, In40 x.1 ∧ In40 x.2) (ha : In40 at_) (ho : In40 out) (hi : In40 inn) : ∀ x ∈ r.map (mvS at_ out inn), I64 x.1 ∧ I64 x.2 := fun x hx => by
  obtain ⟨y, hy, rfl⟩ := List.mem_map.1 hx
  exact ⟨mv_bound (h y hy).1 ha ho hi, mv_bound (h y hy).2 ha ho hi⟩
set_option maxRecDepth 100000 in
set_option maxHeartbeats 4000000 in
theorem shift_any (w : World) (v : Value) (l r : List Spn) (at_ out inn : Int) (h : Sps w v l) (hb : ∀ x ∈ l, I64 x.1 ∧ I64 x.2) (hn : l.length ≤ 500) (hr : Same l r) (hbd : ∀ x ∈ r, In40 x.1 ∧ In40 x.2) (ha : In40 at_) (ho : In40 out) (hi : In40 inn) :
    Calls Try.prog 10 #[v, .int .i64 at_, .int .i64 out, .int .i64 inn] w (OfP (r.map (mvS at_ out inn)) w) := by
  have C1 := Lib.hid (of_any w v l h hb (by omega))
  have HBD := Lib.hid hbd
  have HR := Lib.hid hr
  obtain ⟨a, cap, rfl, -⟩ := h
  clear hb hbd hr
  go_enter Try.func10, Try.ntmps10
  go_wp2_with fail
  refine C1.out.mono ?_; rintro e w1 ⟨v1, r', rfl, h1, h2, h3, h4, h5⟩
  obtain rfl : r = r' := HR.out.one h2
  have U := Lib.hid h1
  have HB1 := Lib.hid h5
  obtain ⟨b, cp, rfl, -⟩ := h1
  clear C1 h2 h4 h5
  go_wp2_with fail
  go_loopw [9, 15] (fun u i wr => ∃ (k : Nat) (m : List Spn), k ≤ r.length ∧ i = .int .i64 (k : Int) ∧ (∃ p c, u = .slice p m.length c) ∧ Hid (m = (r.take k).map (mvS at_ out inn)) ∧ Hid (OwnS wr w1.heap.size u m ∧ Below w1.heap.size w1 wr)) (fun _ i _ => r.length - (intOf i).toNat)
  case atStart => exact ⟨0, [], Nat.zero_le _, rfl, ⟨_, _, rfl⟩, Lib.hid rfl, Lib.hid ⟨ownS_nil _ _, Below.refl _ _⟩⟩
  case round =>
    obtain ⟨k, m, hk, rfl, ⟨p2, c2, rfl⟩, hM, hO⟩ := hrel
    have hml : m.length ≤ r.length := by rw [hM.out, List.length_map, List.length_take]; omega
    by_cases hlt : k < r.length
    · obtain ⟨ad, rfl, x0, x1⟩ := U.out.at_ k hlt
      have i1 : (0 : Int) ≤ (k : Int) := by omega
      have i2 : (k : Int) < (r.length : Int) := by omega
      have z0 := keepCell hO.out.2 x0
      have z1 := keepCell hO.out.2 x1
      have hF := map_snoc r k hlt at_ out inn
      clear x0 x1
      obtain ⟨b0, b1⟩ := HBD.out r[k] (List.getElem_mem hlt)
      generalize r[k] = x at *
      obtain ⟨xf, xt⟩ := x
      simp only at z0 z1 hF b0 b1
      rw [← hM.out] at hF
      have hM2 := Lib.hid hF.symm
      clear hF
      have MC0 := Lib.hid (fun W' => moved_any W' xf at_ out inn b0 ha ho hi)
      have MC1 := Lib.hid (fun W' => moved_any W' xt at_ out inn b1 ha ho hi)
      have e0 : (wr.alloc (.cells #[.int .i64 xf, .int .i64 xt] 26)).cell? ⟨wr.heap.size, 0, none⟩ = some (.int .i64 xf) := by rw [World.cell?_alloc_new]; rfl
      have e1 : (wr.alloc (.cells #[.int .i64 xf, .int .i64 xt] 26)).cell? ⟨wr.heap.size, 1, none⟩ = some (.int .i64 xt) := by rw [World.cell?_alloc_new]; rfl
      have hap := Lib.hid (fun e => Nat.lt_irrefl _ (World.ownsRow.lt hO.out.1 wr.heap.size e).2)
      have hOx := Lib.hid (And.intro (hO.out.1.alloc (.cells #[.int .i64 xf, .int .i64 xt] 26)) (hO.out.2.alloc hO.out.2.size (.cells #[.int .i64 xf, .int .i64 xt] 26)))
      go_upto_region 5 with fail
      generalize wr.alloc (.cells #[.int .i64 xf, .int .i64 xt] 26) = wx at *
      generalize wr.heap.size = X at *
      clear hO z0 z1
      go_region_held3 (fun w' => w'.cell? ⟨X, 0, none⟩ = some (.int .i64 xf) ∧ w'.cell? ⟨X, 1, none⟩ = some (.int .i64 xt)) (first | exact ⟨k0, k1⟩ | (go_split_ands; refine ⟨?_, ?_⟩ <;> assumption) | go_keep)
        (first
          | (go_at_call 8; (first | (with_reducible refine (MC0.out _).mono ?_) | (with_reducible refine (MC1.out _).mono ?_)); rintro e w' ⟨rfl, rfl⟩)
          | (refine ownS_append_step (by rfl) _ _ (by rfl) w1.heap.size _ _ rfl (hOx.out.1.alloc _).drew wx.heap.size _ (mv xf at_ out inn, mv xt at_ out inn) rfl (heap_alloc_new wx _) (by omega) (by have := hOx.out.2.size; simp <;> omega) ?_; intro v4 w4 ho4 hg4 hb4 hat4; have k0 := keep_x e0 hg4 hap.out; have k1 := keep_x e1 hg4 hap.out; have hO4 := Lib.hid (And.intro ho4 ((hOx.out.2.alloc hOx.out.2.size _).drew.trans hb4)); clear ho4 hg4 hb4 hat4)
          | (refine ownS_append_step (by rfl) _ _ (by rfl) w1.heap.size _ _ rfl (hOx.out.1.drew.alloc _) wx.drew.heap.size _ (mv xf at_ out inn, mv xt at_ out inn) rfl (heap_alloc_new wx.drew _) (by omega) (by have := hOx.out.2.size; simp <;> omega) ?_; intro v4 w4 ho4 hg4 hb4 hat4; have k0 := keep_x e0 hg4 hap.out; have k1 := keep_x e1 hg4 hap.out; have hO4 := Lib.hid (And.intro ho4 ((hOx.out.2.drew.alloc (w := wx.drew) hOx.out.2.size _).trans hb4)); clear ho4 hg4 hb4 hat4))
      all_goals
        go_wp2_with fail
        have LEN := hO4.out.1.len
        go_roundw
        case rel => first | exact ⟨k + 1, _, by omega, by go_num, LEN, hM2, hO4⟩ | ((repeat apply Exists.intro); exact ⟨⟨k + 1, _, by omega, by go_num, LEN, hM2, hO4⟩, rfl⟩)
        case measure => simp [intOf]; omega
    · have hkr : k = r.length := by omega
      have hm2 := hM.out
      rw [hkr, List.take_length] at hm2
      have HM2 := Lib.hid hm2
      have C2 := Lib.hid (of_any wr (.slice p2 m.length c2) m hO.out.1.sps (by rw [hm2]; exact map_fit HBD.out ha ho hi) (by omega))
      have kd : decide ((k : Int) < (r.length : Int)) = false := decide_eq_false (by omega)
      have kd2 : decide (k < r.length) = false := decide_eq_false (by omega)
      clear hm2 hM
      have HB2 := Lib.hid (HB1.out.trans (hO.out.2.mono HB1.out.size))
      clear U hO
      go_wp2_with fail
      refine C2.out.mono ?_; rintro e w5 ⟨v5, r5, rfl, q1, q2, q3, q4, q5⟩
      have Q := Lib.hid (show OfP (r.map (mvS at_ out inn)) w (.returned v5) w5 from by rw [← HM2.out]; exact ⟨v5, r5, rfl, q1, q2, q3, q4, HB2.out.trans (q5.mono HB2.out.size)⟩)
      clear q1 q2 q3 q4 q5 C2
      go_wp2_with fail
      go_ret
      exact Q.out
end Go.Proofs.Ythpenogkejoljaa.Sp
