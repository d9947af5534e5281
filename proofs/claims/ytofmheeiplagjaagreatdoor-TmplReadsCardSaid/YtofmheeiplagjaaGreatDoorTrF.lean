/-
  PROVED HERE: the contract of the laws' sameItems. Conditions: as each theorem states.
-/
import Derived.Test.YtofmheeiplagjaaGreatDoorTmL
import Derived.Test.YtofmheeiplagjaaGreatDoorExpH
import Derived.Test.YtofmheeiplagjaaGreatDoorTmN
import Derived.Deep.DeepCutAuto
import Derived.Deep.CutBlock
namespace Go.Proofs.YtofmheeiplagjaaGreatDoor.Tm
open Go.RowKit Go.Proofs.YtofmheeiplagjaaGreatDoor.Lex Go.Proofs.YtofmheeiplagjaaGreatDoor.Dig
theorem CtAt.below {w w' : World} (hb : Below w.heap.size w w') {c : Option Ex} {v : Value} (h : CtAt w c v) : CtAt w' c v := by
  cases c with
  | none => exact h
  | some x => exact ExAt.below hb x v h
mutual
theorem ItAt.below {w w' : World} (hb : Below w.heap.size w w') : ∀ (x : It) (cv iv : Value), ItAt w x cv iv → ItAt w' x cv iv
  | .mk _ _ _ _ _ _ _ _ ct _ _ _ its, cv, iv, h => by
    unfold ItAt at h ⊢
    obtain ⟨h1, a, cap, e, hl, h2⟩ := h
    exact ⟨h1.below hb, a, cap, e, hl, RowAt.below hb its a 0 h2⟩
theorem RowAt.below {w w' : World} (hb : Below w.heap.size w w') : ∀ (l : List It) (a : Option Addr) (j : Nat), RowAt w l a j → RowAt w' l a j
  | [], _, _, _ => by unfold RowAt; trivial
  | x :: r, a, j, h => by
    unfold RowAt at h ⊢
    obtain ⟨⟨ad, cv, iv, e, hc, hi⟩, h2⟩ := h
    exact ⟨⟨ad, cv, iv, e, fun i v hv => keepCell hb (hc i v hv), ItAt.below hb x cv iv hi⟩, RowAt.below hb r a (j + 1) h2⟩
end
theorem ItsAt.below' {w w' : World} (hb : Below w.heap.size w w') {v : Value} {l : List It} (h : ItsAt w v l) : ItsAt w' v l := by
  obtain ⟨a, cap, e, hl, h2⟩ := h
  exact ⟨a, cap, e, hl, RowAt.below hb l a 0 h2⟩
def SmI (W : World) (e : Ending) (w' : World) : Prop := e = .returned (.bool true) ∧ Below W.heap.size W w'
theorem same_ct {c : Option Ex} {a b : Value} {W : World} (ha : CtAt W c a) (hb : CtAt W c b) : Calls Tryz.prog 9 #[a, b] W fun e w' => e = .returned (.bool true) ∧ ∃ n, w' = W.drewN n := by
  cases c with
  | none =>
    obtain rfl : a = .pointer none := ha
    obtain rfl : b = .pointer none := hb
    exact same_nil W
  | some x => exact same_any x a b W ha hb
theorem ct_ptr {w : World} {c : Option Ex} {v : Value} (h : CtAt w c v) : ∃ p, v = .pointer p := by
  cases c with
  | none => exact ⟨none, h⟩
  | some x =>
    cases x with
    | num k n => obtain ⟨g, e, _⟩ := h; exact ⟨_, e⟩
    | nam k s => obtain ⟨g, e, _⟩ := h; exact ⟨_, e⟩
    | bin k op l r => obtain ⟨g, a, b, e, _⟩ := h; exact ⟨_, e⟩
theorem its_slice {w : World} {l : List It} {v : Value} (h : ItsAt w v l) : ∃ a m c, v = .slice a m c := by
  obtain ⟨a, cap, e, _⟩ := h
  exact ⟨_, _, _, e⟩
theorem add_13 (ad : Addr) (m i : Nat) : ad.add (m + i) = if i = 0 then ad.add m else ⟨(ad.add m).block, (ad.add m).off + i, none⟩ := by
  cases i with
  | zero => rfl
  | succ i => rw [if_neg (by omega)]; exact add_next2 ad m i
def SmC (n : Nat) : Prop := ∀ (l : List It) (va vb : Value) (W : World), cl l < n → cl l ≤ 1000000 → ItsAt W va l → ItsAt W vb l → Calls Tryz.prog 17 #[va, vb] W (SmI W)
theorem ci_mem {l : List It} : ∀ x ∈ l, ci x ≤ cl l := by
  induction l with
  | nil => intro x h; cases h
  | cons y r ih =>
    intro x h
    rw [cl]
    rcases List.mem_cons.1 h with rfl | h
    · omega
    · have := ih x h; omega
theorem len_cl (l : List It) : l.length ≤ cl l := by
  induction l with
  | nil => exact Nat.zero_le _
  | cons y r ih =>
    rw [cl, List.length_cons]
    have : 1 ≤ ci y := by cases y; simp only [ci]; omega
    omega
theorem cl_items (x : It) : cl x.items + 1 = ci x := by cases x; simp only [It.items, ci]; omega
theorem ib_second (w : World) (o : Obj) (vs : List Value) : IB ((w.alloc o).alloc (.cells vs.toArray 92)) (w.heap.size + 1) vs := by
  have h := heap_alloc_new (w.alloc o) (.cells vs.toArray 92)
  rw [show (w.alloc o).heap.size = w.heap.size + 1 by simp] at h
  exact h
theorem below_two (w : World) (o o2 : Obj) : Below w.heap.size w ((w.alloc o).alloc o2) := ((Below.refl _ _).alloc (Nat.le_refl _) o).alloc (by simp) o2
section
variable {n : Nat}
set_option maxRecDepth 100000 in
set_option maxHeartbeats 8000000 in
theorem same_run (IH : SmC n) : SmC (n + 1) := by
  intro l va vb W hn hm ha hb
  have hlm := Nat.le_trans (len_cl l) hm
  have HM := Lib.hid hm
  have HI := Lib.hid IH
  have HA := Lib.hid ha
  have HB := Lib.hid hb
  obtain ⟨pa, ca, rfl, hla, ra⟩ := ha
  obtain ⟨pb, cb, rfl, hlb, rb⟩ := hb
  have RA := Lib.hid ra
  have RB := Lib.hid rb
  have e0 : ((l.length : Int) != l.length) = false := by simp
  have HN := Lib.hid hn
  clear ra rb IH hn hm
  go_enter Tryz.func17, Tryz.ntmps17
  go_wp2_with fail
  go_loopw [5] (fun i wr => ∃ j : Nat, i = .int .i64 (j : Nat) ∧ j ≤ l.length ∧ Hid (Below W.heap.size W wr)) (fun i _ => l.length - (intOf i).toNat)
  case atStart => exact ⟨0, rfl, Nat.zero_le _, Lib.hid (Below.refl _ _)⟩
  case round =>
    obtain ⟨j, rfl, hj, HW⟩ := hrel
    by_cases hlt : j < l.length
    · have d1 : (j : Int) < (l.length : Int) := by omega
      obtain ⟨ad, cva, iva, rfl, hca, hia⟩ := rowAt_get l 0 RA.out j hlt
      obtain ⟨bd, cvb, ivb, rfl, hcb, hib⟩ := rowAt_get l 0 RB.out j hlt
      have hci := ci_mem _ (List.getElem_mem hlt)
      rw [Nat.zero_add] at hca hcb
      obtain ⟨x, hx⟩ : ∃ x, l[j] = x := ⟨_, rfl⟩
      rw [hx] at hca hcb hia hib hci
      have hcx := cl_items x
      have hia2 := (itAt_iff _ _ _ _).1 hia
      have hib2 := (itAt_iff _ _ _ _).1 hib
      obtain ⟨xpa, rfl⟩ := ct_ptr hia2.1
      obtain ⟨xpb, rfl⟩ := ct_ptr hib2.1
      obtain ⟨sa1, sa2, sa3, rfl⟩ := its_slice hia2.2
      obtain ⟨sb1, sb2, sb3, rfl⟩ := its_slice hib2.2
      obtain ⟨q0, q1, q2, q3, q4, q5, q6, q7, q8, q9, q10, q11, q12⟩ := x
      have HW2 := HW.out
      have KA : ∀ m v, (itVals (.mk q0 q1 q2 q3 q4 q5 q6 q7 q8 q9 q10 q11 q12) (.pointer xpa) (.slice sa1 sa2 sa3))[m]? = some v → wr.cell? (ad.add (j * 13 + m)) = some v := fun m v h => keepCell HW2 (hca m v h)
      have KB : ∀ m v, (itVals (.mk q0 q1 q2 q3 q4 q5 q6 q7 q8 q9 q10 q11 q12) (.pointer xpb) (.slice sb1 sb2 sb3))[m]? = some v → wr.cell? (bd.add (j * 13 + m)) = some v := fun m v h => keepCell HW2 (hcb m v h)
      have a0 : wr.cell? (ad.add (j * 13)) = some (.int .i64 q0) := KA 0 _ rfl
      have a1 : wr.cell? ⟨(ad.add (j * 13)).block, (ad.add (j * 13)).off + 1, none⟩ = some (.int .i64 (q1 : Nat)) := by rw [← add_next2]; exact KA 1 _ rfl
      have a2 : wr.cell? ⟨(ad.add (j * 13)).block, (ad.add (j * 13)).off + 2, none⟩ = some (.string q2) := by rw [← add_next2]; exact KA 2 _ rfl
      have a3 : wr.cell? ⟨(ad.add (j * 13)).block, (ad.add (j * 13)).off + 3, none⟩ = some (.string q3) := by rw [← add_next2]; exact KA 3 _ rfl
      have a4 : wr.cell? ⟨(ad.add (j * 13)).block, (ad.add (j * 13)).off + 4, none⟩ = some (.int .i64 q4) := by rw [← add_next2]; exact KA 4 _ rfl
      have a5 : wr.cell? ⟨(ad.add (j * 13)).block, (ad.add (j * 13)).off + 5, none⟩ = some (.int .i64 q5) := by rw [← add_next2]; exact KA 5 _ rfl
      have a6 : wr.cell? ⟨(ad.add (j * 13)).block, (ad.add (j * 13)).off + 6, none⟩ = some (.bool q6) := by rw [← add_next2]; exact KA 6 _ rfl
      have a7 : wr.cell? ⟨(ad.add (j * 13)).block, (ad.add (j * 13)).off + 7, none⟩ = some (.bool q7) := by rw [← add_next2]; exact KA 7 _ rfl
      have a8 : wr.cell? ⟨(ad.add (j * 13)).block, (ad.add (j * 13)).off + 8, none⟩ = some (.pointer xpa) := by rw [← add_next2]; exact KA 8 _ rfl
      have a9 : wr.cell? ⟨(ad.add (j * 13)).block, (ad.add (j * 13)).off + 9, none⟩ = some (.int .i64 q9) := by rw [← add_next2]; exact KA 9 _ rfl
      have a10 : wr.cell? ⟨(ad.add (j * 13)).block, (ad.add (j * 13)).off + 10, none⟩ = some (.string q10) := by rw [← add_next2]; exact KA 10 _ rfl
      have a11 : wr.cell? ⟨(ad.add (j * 13)).block, (ad.add (j * 13)).off + 11, none⟩ = some (.string q11) := by rw [← add_next2]; exact KA 11 _ rfl
      have a12 : wr.cell? ⟨(ad.add (j * 13)).block, (ad.add (j * 13)).off + 12, none⟩ = some (.slice sa1 sa2 sa3) := by rw [← add_next2]; exact KA 12 _ rfl
      have b0 : wr.cell? (bd.add (j * 13)) = some (.int .i64 q0) := KB 0 _ rfl
      have b1 : wr.cell? ⟨(bd.add (j * 13)).block, (bd.add (j * 13)).off + 1, none⟩ = some (.int .i64 (q1 : Nat)) := by rw [← add_next2]; exact KB 1 _ rfl
      have b2 : wr.cell? ⟨(bd.add (j * 13)).block, (bd.add (j * 13)).off + 2, none⟩ = some (.string q2) := by rw [← add_next2]; exact KB 2 _ rfl
      have b3 : wr.cell? ⟨(bd.add (j * 13)).block, (bd.add (j * 13)).off + 3, none⟩ = some (.string q3) := by rw [← add_next2]; exact KB 3 _ rfl
      have b4 : wr.cell? ⟨(bd.add (j * 13)).block, (bd.add (j * 13)).off + 4, none⟩ = some (.int .i64 q4) := by rw [← add_next2]; exact KB 4 _ rfl
      have b5 : wr.cell? ⟨(bd.add (j * 13)).block, (bd.add (j * 13)).off + 5, none⟩ = some (.int .i64 q5) := by rw [← add_next2]; exact KB 5 _ rfl
      have b6 : wr.cell? ⟨(bd.add (j * 13)).block, (bd.add (j * 13)).off + 6, none⟩ = some (.bool q6) := by rw [← add_next2]; exact KB 6 _ rfl
      have b7 : wr.cell? ⟨(bd.add (j * 13)).block, (bd.add (j * 13)).off + 7, none⟩ = some (.bool q7) := by rw [← add_next2]; exact KB 7 _ rfl
      have b8 : wr.cell? ⟨(bd.add (j * 13)).block, (bd.add (j * 13)).off + 8, none⟩ = some (.pointer xpb) := by rw [← add_next2]; exact KB 8 _ rfl
      have b9 : wr.cell? ⟨(bd.add (j * 13)).block, (bd.add (j * 13)).off + 9, none⟩ = some (.int .i64 q9) := by rw [← add_next2]; exact KB 9 _ rfl
      have b10 : wr.cell? ⟨(bd.add (j * 13)).block, (bd.add (j * 13)).off + 10, none⟩ = some (.string q10) := by rw [← add_next2]; exact KB 10 _ rfl
      have b11 : wr.cell? ⟨(bd.add (j * 13)).block, (bd.add (j * 13)).off + 11, none⟩ = some (.string q11) := by rw [← add_next2]; exact KB 11 _ rfl
      have b12 : wr.cell? ⟨(bd.add (j * 13)).block, (bd.add (j * 13)).off + 12, none⟩ = some (.slice sb1 sb2 sb3) := by rw [← add_next2]; exact KB 12 _ rfl
      have i0 : (0 : Int) ≤ (j : Int) := by omega
      clear hca hcb hx hia hib KA KB HW2
      obtain ⟨⟨g1, o1, y1⟩, hA1⟩ : ∃ A, ad.add (j * 13) = A := ⟨_, rfl⟩
      obtain ⟨⟨g2, o2, y2⟩, hA2⟩ : ∃ A, bd.add (j * 13) = A := ⟨_, rfl⟩
      rw [hA1] at a0 a1 a2 a3 a4 a5 a6 a7 a8 a9 a10 a11 a12
      rw [hA2] at b0 b1 b2 b3 b4 b5 b6 b7 b8 b9 b10 b11 b12
      have z1 : g1 < wr.heap.size := World.block_lt_of_cell? wr _ a1
      have z2 : g2 < wr.heap.size := World.block_lt_of_cell? wr _ b1
      have n1 : ¬ g1 = wr.heap.size := by omega
      have n2 : ¬ g2 = wr.heap.size := by omega
      have n3 : ¬ g1 = wr.heap.size + 1 := by omega
      have n4 : ¬ g2 = wr.heap.size + 1 := by omega
      have n5 : ¬ wr.heap.size = g1 := by omega
      have n6 : ¬ wr.heap.size = g2 := by omega
      have n7 : ¬ wr.heap.size + 1 = g1 := by omega
      have n8 : ¬ wr.heap.size + 1 = g2 := by omega
      have CT := Lib.hid (fun (w' : World) (hb : Below wr.heap.size wr w') => same_ct (CtAt.below (HW.out.trans (hb.mono HW.out.size)) hia2.1) (CtAt.below (HW.out.trans (hb.mono HW.out.size)) hib2.1))
      have CI := Lib.hid (fun (w' : World) (hb : Below wr.heap.size wr w') => HI.out q12 (.slice sa1 sa2 sa3) (.slice sb1 sb2 sb3) w' (by have := HN.out; simp only [It.items] at hcx; omega) (by have := HM.out; simp only [It.items] at hcx; omega) (hia2.2.below' (HW.out.trans (hb.mono HW.out.size))) (hib2.2.below' (HW.out.trans (hb.mono HW.out.size))))
      unfold SmI at CI
      clear hia2 hib2 hcx hci
      go_upto_region 6 with fail
      go_cut [6, 7] (fun v6 v7 wx => ∃ X Y : Nat, v6 = .pointer (some ⟨X, 0, none⟩) ∧ v7 = .pointer (some ⟨Y, 0, none⟩) ∧ Hid (IB wx X (itVals (.mk q0 q1 q2 q3 q4 q5 q6 q7 q8 q9 q10 q11 q12) (.pointer xpa) (.slice sa1 sa2 sa3))) ∧ Hid (IB wx Y (itVals (.mk q0 q1 q2 q3 q4 q5 q6 q7 q8 q9 q10 q11 q12) (.pointer xpb) (.slice sb1 sb2 sb3))) ∧ Hid (Below wr.heap.size wr wx))
      case first =>
        go_region
        · go_wp2_with fail
          go_meet
          exact ⟨wr.heap.size, wr.heap.size + 1, rfl, rfl, Lib.hid ((IB.new wr (itVals (.mk q0 q1 q2 q3 q4 q5 q6 q7 q8 q9 q10 q11 q12) (.pointer xpa) (.slice sa1 sa2 sa3))).alloc _), Lib.hid (ib_second wr _ (itVals (.mk q0 q1 q2 q3 q4 q5 q6 q7 q8 q9 q10 q11 q12) (.pointer xpb) (.slice sb1 sb2 sb3))), Lib.hid (below_two wr _ _).drew⟩
        · go_wp2_with fail
          go_meet
          exact ⟨wr.heap.size + 1, wr.heap.size, rfl, rfl, Lib.hid (ib_second wr _ (itVals (.mk q0 q1 q2 q3 q4 q5 q6 q7 q8 q9 q10 q11 q12) (.pointer xpa) (.slice sa1 sa2 sa3))), Lib.hid ((IB.new wr (itVals (.mk q0 q1 q2 q3 q4 q5 q6 q7 q8 q9 q10 q11 q12) (.pointer xpb) (.slice sb1 sb2 sb3))).alloc _), Lib.hid (below_two wr _ _).drew⟩
      case rest =>
        obtain ⟨X, Y, rfl, rfl, IX, IY, BX⟩ := hcut
        clear a0 b0 a1 b1 a2 b2 a3 b3 a4 b4 a5 b5 a6 b6 a7 b7 a8 b8 a9 b9 a10 b10 a11 b11 a12 b12 z1 z2 n1 n2 n3 n4 n5 n6 n7 n8
        have x0 : wc.cell? ⟨X, 0, none⟩ = some (.int .i64 q0) := IX.out.cell 0
        have x1 : wc.cell? ⟨X, 1, none⟩ = some (.int .i64 (q1 : Nat)) := IX.out.cell 1
        have x2 : wc.cell? ⟨X, 2, none⟩ = some (.string q2) := IX.out.cell 2
        have x3 : wc.cell? ⟨X, 3, none⟩ = some (.string q3) := IX.out.cell 3
        have x4 : wc.cell? ⟨X, 4, none⟩ = some (.int .i64 q4) := IX.out.cell 4
        have x5 : wc.cell? ⟨X, 5, none⟩ = some (.int .i64 q5) := IX.out.cell 5
        have x6 : wc.cell? ⟨X, 6, none⟩ = some (.bool q6) := IX.out.cell 6
        have x7 : wc.cell? ⟨X, 7, none⟩ = some (.bool q7) := IX.out.cell 7
        have x8 : wc.cell? ⟨X, 8, none⟩ = some (.pointer xpa) := IX.out.cell 8
        have x9 : wc.cell? ⟨X, 9, none⟩ = some (.int .i64 q9) := IX.out.cell 9
        have x10 : wc.cell? ⟨X, 10, none⟩ = some (.string q10) := IX.out.cell 10
        have x11 : wc.cell? ⟨X, 11, none⟩ = some (.string q11) := IX.out.cell 11
        have x12 : wc.cell? ⟨X, 12, none⟩ = some (.slice sa1 sa2 sa3) := IX.out.cell 12
        have y0 : wc.cell? ⟨Y, 0, none⟩ = some (.int .i64 q0) := IY.out.cell 0
        have y1 : wc.cell? ⟨Y, 1, none⟩ = some (.int .i64 (q1 : Nat)) := IY.out.cell 1
        have y2 : wc.cell? ⟨Y, 2, none⟩ = some (.string q2) := IY.out.cell 2
        have y3 : wc.cell? ⟨Y, 3, none⟩ = some (.string q3) := IY.out.cell 3
        have y4 : wc.cell? ⟨Y, 4, none⟩ = some (.int .i64 q4) := IY.out.cell 4
        have y5 : wc.cell? ⟨Y, 5, none⟩ = some (.int .i64 q5) := IY.out.cell 5
        have y6 : wc.cell? ⟨Y, 6, none⟩ = some (.bool q6) := IY.out.cell 6
        have y7 : wc.cell? ⟨Y, 7, none⟩ = some (.bool q7) := IY.out.cell 7
        have y8 : wc.cell? ⟨Y, 8, none⟩ = some (.pointer xpb) := IY.out.cell 8
        have y9 : wc.cell? ⟨Y, 9, none⟩ = some (.int .i64 q9) := IY.out.cell 9
        have y10 : wc.cell? ⟨Y, 10, none⟩ = some (.string q10) := IY.out.cell 10
        have y11 : wc.cell? ⟨Y, 11, none⟩ = some (.string q11) := IY.out.cell 11
        have y12 : wc.cell? ⟨Y, 12, none⟩ = some (.slice sb1 sb2 sb3) := IY.out.cell 12
        have CT := Lib.hid (fun (w' : World) (hb : Below wc.heap.size wc w') => CT.out w' (BX.out.trans (hb.mono BX.out.size)))
        have CI := Lib.hid (fun (w' : World) (hb : Below wc.heap.size wc w') => CI.out w' (BX.out.trans (hb.mono BX.out.size)))
        have HX : Hid (Below wc.heap.size wc wc) := Lib.hid (Below.refl _ _)
        have m0 : (q0 != q0) = false := by simp
        have m1 : ((q1 : Int) != (q1 : Int)) = false := by simp
        have m2 : (q2.toList != q2.toList) = false := by simp
        have m3 : (q3.toList != q3.toList) = false := by simp
        have m4 : (q4 != q4) = false := by simp
        have m5 : (q5 != q5) = false := by simp
        have m6 : (q6 != q6) = false := by simp
        have m7 : (q7 != q7) = false := by simp
        have m9 : (q9 != q9) = false := by simp
        have m10 : (q10.toList != q10.toList) = false := by simp
        have m11 : (q11.toList != q11.toList) = false := by simp
        go_wp2_with fail
        refine (CT.out _ HX.out).mono ?_; rintro e w5 ⟨rfl, nn, rfl⟩
        have B5 := Lib.hid (below_drewN HX.out nn)
        have x12 := keepCell B5.out x12
        have y12 := keepCell B5.out y12
        have CI5 := Lib.hid (CI.out _ B5.out)
        clear x0 x1 x2 x3 x4 x5 x6 x7 x8 x9 x10 x11 y0 y1 y2 y3 y4 y5 y6 y7 y8 y9 y10 y11
        generalize wc.drewN nn = w5 at *
        go_wp2_with fail
        refine (CI5.out).mono ?_; rintro e w6 ⟨rfl, hb⟩
        have B6 := Lib.hid (HW.out.trans ((BX.out.trans ((B5.out.trans (hb.mono B5.out.size)).mono BX.out.size)).mono HW.out.size))
        clear hb
        go_wp2_with fail
        go_roundw
        case rel => exact ⟨j + 1, by go_num, hlt, B6⟩
        case measure => first | (simp [intOf]; done) | (simp [intOf]; omega)
    · have d1 : ¬ (j : Int) < (l.length : Int) := by omega
      go_wp2_with fail
      go_ret
      exact ⟨rfl, HW.out⟩
end
/-- The contract of the laws' sameItems, at the same items twice. -/
theorem sameItems_any : ∀ n, SmC n
  | 0 => fun _ _ _ _ h => absurd h (Nat.not_lt_zero _)
  | n + 1 => same_run (sameItems_any n)
end Go.Proofs.YtofmheeiplagjaaGreatDoor.Tm
