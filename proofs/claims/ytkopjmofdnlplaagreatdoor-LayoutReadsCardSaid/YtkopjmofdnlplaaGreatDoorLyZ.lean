/-
  PROVED HERE: the law's look at two trees of parts; what the law LayoutReads returns. Conditions: as each theorem states.
-/
import Derived.Test.YtkopjmofdnlplaaGreatDoorLyE
import Derived.Test.YtkopjmofdnlplaaGreatDoorTmU
import Derived.Test.YtkopjmofdnlplaaGreatDoorHld
import Derived.Test.YtkopjmofdnlplaaGreatDoorLyX
import Derived.Test.YtkopjmofdnlplaaGreatDoorRig
import Derived.Test.YtkopjmofdnlplaaGreatDoorPlc
namespace Go.Proofs.YtkopjmofdnlplaaGreatDoor.Ly
open Go.RowKit Go.Proofs.YtkopjmofdnlplaaGreatDoor.Tm
/-- Two values that show the same part are the same. -/
def SnC (x : Nd) : Prop := ∀ (W0 : World) (kv kv2 : Value) (W : World), NdAt W0 x kv → NdAt W0 x kv2 → Below W0.heap.size W0 W → Calls Tryz.prog 11 #[.agg (ndVals x kv).toArray, .agg (ndVals x kv2).toArray] W fun e w' => e = .returned (.bool true) ∧ Below W.heap.size W w'
theorem run_at2 {P : Program} {ops : Array Oper} {Q : Exit → Act → World → Prop} {md : Region.Mode} {S : World → Prop} {z f : Nat} {li : Array Bool} {a : Act} {w : World} (li' : Array Bool) (h : li = li') (H : Hld.Run P md ops Q S z f li' a w) : Hld.Run P md ops Q S z f li a w := by rw [h]; exact H
theorem nds_at {w : World} {a : Option Addr} {l : List Nd} (h : NRow w l a 0) (k : Nat) (hk : k < l.length) : ∃ b o kv, a = some ⟨b, o, none⟩ ∧ (∀ m v, (ndVals l[k] kv)[m]? = some v → w.cell? ⟨b, o + k * 7 + m, none⟩ = some v) ∧ NdAt w l[k] kv := by
  obtain ⟨⟨b, o, sp⟩, kv0, ha, h0, _⟩ := nRow_get l 0 h 0 (by omega)
  have h00 : w.cell? ((⟨b, o, sp⟩ : Addr).add ((0 + 0) * 7 + 0)) = some (.string (match l[0] with | .mk nm _ _ _ _ _ _ => nm)) := h0 0 _ (by cases l[0]; rfl)
  have hsp : sp = none := by
    rw [show ((0 + 0) * 7 + 0) = 0 from rfl, show (⟨b, o, sp⟩ : Addr).add 0 = ⟨b, o, sp⟩ by simp [Addr.add]] at h00
    unfold World.cell? at h00
    cases sp with
    | none => rfl
    | some x => simp at h00; split at h00 <;> simp at h00
  subst hsp
  obtain ⟨ad, kv, hb, hc, hi⟩ := nRow_get l 0 h k hk
  rw [ha] at hb
  injection hb with hb
  subst hb
  refine ⟨b, o, kv, ha, fun m v hm => ?_, hi⟩
  have := hc m v hm
  rw [add_none, Nat.zero_add] at this
  rw [Nat.add_assoc]
  exact this
set_option maxRecDepth 100000 in
set_option maxHeartbeats 8000000 in
theorem same_mk (nm : ByteArray) (kd : Int) (p : Nat) (sz n : Int) (t : ByteArray) (kids : List Nd) (H : ∀ x ∈ kids, SnC x) : SnC (.mk nm kd p sz n t kids) := by
  intro W0 kv kv2 W h1 h2 hb
  unfold NdAt at h1 h2
  obtain ⟨a1, c1, rfl, ⟨hl1, hm1⟩, r1⟩ := h1
  obtain ⟨a2, c2, rfl, ⟨hl2, hm2⟩, r2⟩ := h2
  have R1 := Lib.hid r1
  have R2 := Lib.hid r2
  have HH := Lib.hid H
  have HB := Lib.hid hb
  have hn : kids.length ≤ 9223372036854775807 := by unfold maxLen at hm1; omega
  obtain ⟨N, hN⟩ : ∃ N, kids.length = N := ⟨_, rfl⟩
  have HN := Lib.hid hN
  simp only [ndVals]
  rw [hN] at hn ⊢
  clear r1 r2 H hb hl1 hl2 hm1 hm2 hN
  have bA : Below W.heap.size W ((W.alloc (.cells #[.string nm, .int .i64 kd, .int .i64 (p : Nat), .int .i64 sz, .int .i64 n, .string t, .slice a1 N c1] 27)).alloc (.cells #[.string nm, .int .i64 kd, .int .i64 (p : Nat), .int .i64 sz, .int .i64 n, .string t, .slice a2 N c2] 27)) := ((Below.refl _ _).alloc (Nat.le_refl _) _).alloc (by simp) _
  have iA : ((W.alloc (.cells #[.string nm, .int .i64 kd, .int .i64 (p : Nat), .int .i64 sz, .int .i64 n, .string t, .slice a1 N c1] 27)).alloc (.cells #[.string nm, .int .i64 kd, .int .i64 (p : Nat), .int .i64 sz, .int .i64 n, .string t, .slice a2 N c2] 27)).heap[W.heap.size]? = some (.cells #[.string nm, .int .i64 kd, .int .i64 (p : Nat), .int .i64 sz, .int .i64 n, .string t, .slice a1 N c1] 27) := (heap_alloc_old _ _ (by simp)).trans (heap_alloc_new _ _)
  have iB : ((W.alloc (.cells #[.string nm, .int .i64 kd, .int .i64 (p : Nat), .int .i64 sz, .int .i64 n, .string t, .slice a1 N c1] 27)).alloc (.cells #[.string nm, .int .i64 kd, .int .i64 (p : Nat), .int .i64 sz, .int .i64 n, .string t, .slice a2 N c2] 27)).heap[W.heap.size + 1]? = some (.cells #[.string nm, .int .i64 kd, .int .i64 (p : Nat), .int .i64 sz, .int .i64 n, .string t, .slice a2 N c2] 27) := by
    have := heap_alloc_new (W.alloc (.cells #[.string nm, .int .i64 kd, .int .i64 (p : Nat), .int .i64 sz, .int .i64 n, .string t, .slice a1 N c1] 27)) (.cells #[.string nm, .int .i64 kd, .int .i64 (p : Nat), .int .i64 sz, .int .i64 n, .string t, .slice a2 N c2] 27)
    rwa [show (W.alloc (.cells #[.string nm, .int .i64 kd, .int .i64 (p : Nat), .int .i64 sz, .int .i64 n, .string t, .slice a1 N c1] 27)).heap.size = W.heap.size + 1 by simp] at this
  go_enter Tryz.func11, Tryz.ntmps11
  go_upto_region 1 with fail
  generalize ((W.alloc (.cells #[.string nm, .int .i64 kd, .int .i64 (p : Nat), .int .i64 sz, .int .i64 n, .string t, .slice a1 N c1] 27)).alloc (.cells #[.string nm, .int .i64 kd, .int .i64 (p : Nat), .int .i64 sz, .int .i64 n, .string t, .slice a2 N c2] 27)) = w1 at *
  obtain ⟨X, hX⟩ : ∃ X, W.heap.size = X := ⟨_, rfl⟩
  have HXe := Lib.hid hX
  rw [hX] at iA iB ⊢
  have IA := Lib.hid iA
  have IB2 := Lib.hid iB
  have BA := Lib.hid bA
  have x0 : w1.cell? ⟨X, 0, none⟩ = some (.string nm) := by unfold World.cell?; rw [iA]; rfl
  have x1 : w1.cell? ⟨X, 1, none⟩ = some (.int .i64 kd) := by unfold World.cell?; rw [iA]; rfl
  have x2 : w1.cell? ⟨X, 2, none⟩ = some (.int .i64 (p : Nat)) := by unfold World.cell?; rw [iA]; rfl
  have x3 : w1.cell? ⟨X, 3, none⟩ = some (.int .i64 sz) := by unfold World.cell?; rw [iA]; rfl
  have x4 : w1.cell? ⟨X, 4, none⟩ = some (.int .i64 n) := by unfold World.cell?; rw [iA]; rfl
  have x5 : w1.cell? ⟨X, 5, none⟩ = some (.string t) := by unfold World.cell?; rw [iA]; rfl
  have x6 : w1.cell? ⟨X, 6, none⟩ = some (.slice a1 N c1) := by unfold World.cell?; rw [iA]; rfl
  have y0 : w1.cell? ⟨X + 1, 0, none⟩ = some (.string nm) := by unfold World.cell?; rw [iB]; rfl
  have y1 : w1.cell? ⟨X + 1, 1, none⟩ = some (.int .i64 kd) := by unfold World.cell?; rw [iB]; rfl
  have y2 : w1.cell? ⟨X + 1, 2, none⟩ = some (.int .i64 (p : Nat)) := by unfold World.cell?; rw [iB]; rfl
  have y3 : w1.cell? ⟨X + 1, 3, none⟩ = some (.int .i64 sz) := by unfold World.cell?; rw [iB]; rfl
  have y4 : w1.cell? ⟨X + 1, 4, none⟩ = some (.int .i64 n) := by unfold World.cell?; rw [iB]; rfl
  have y5 : w1.cell? ⟨X + 1, 5, none⟩ = some (.string t) := by unfold World.cell?; rw [iB]; rfl
  have y6 : w1.cell? ⟨X + 1, 6, none⟩ = some (.slice a2 N c2) := by unfold World.cell?; rw [iB]; rfl
  have e0 : (nm.toList == nm.toList) = true := beq_self_eq_true _
  have e1 : (t.toList == t.toList) = true := beq_self_eq_true _
  have HB1 := Lib.hid (HB.out.trans (bA.mono HB.out.size))
  clear bA iA iB hX
  go_wp2_with fail
  go_loopw [5] (fun i wr => ∃ k : Nat, i = .int .i64 (k : Nat) ∧ k ≤ N ∧ Hid (Below w1.heap.size w1 wr)) (fun i _ => N - (intOf i).toNat)
  case atStart => exact ⟨0, rfl, Nat.zero_le _, Lib.hid (Below.refl _ _)⟩
  case round =>
    clear x0 x1 x2 x3 x4 x5 y0 y1 y2 y3 y4 y5 e0 e1
    obtain ⟨k, rfl, hk, hBk⟩ := hrel
    have x6 := keepCell hBk.out x6
    have y6 := keepCell hBk.out y6
    by_cases hlt : k < N
    · have hkl : k < kids.length := by have := HN.out; omega
      obtain ⟨b1, o1, kv1, rfl, hc1, hd1⟩ := nds_at R1.out k hkl
      obtain ⟨b2, o2, kv2, rfl, hc2, hd2⟩ := nds_at R2.out k hkl
      have C := Lib.hid (HH.out kids[k] (List.getElem_mem hkl) W0 kv1 kv2)
      have i1 : (0 : Int) ≤ (k : Int) := by omega
      have i2 : (k : Int) < (N : Int) := by omega
      have hBW := HB1.out.trans (hBk.out.mono HB1.out.size)
      obtain ⟨⟨qm, qk, qp, qs, qn, qt, ql⟩, hq⟩ : ∃ q, kids[k] = q := ⟨_, rfl⟩
      rw [hq] at hc1 hc2 C hd1 hd2
      have C2 := Lib.hid (fun w hw => C.out w hd1 hd2 hw)
      obtain ⟨aa, cc, rfl, _, _⟩ := (show ∃ a cap, kv1 = .slice a ql.length cap ∧ (ql.length ≤ cap ∧ cap ≤ maxLen) ∧ NRow W0 ql a 0 by unfold NdAt at hd1; exact hd1)
      obtain ⟨ab, cb, rfl, _, _⟩ := (show ∃ a cap, kv2 = .slice a ql.length cap ∧ (ql.length ≤ cap ∧ cap ≤ maxLen) ∧ NRow W0 ql a 0 by unfold NdAt at hd2; exact hd2)
      obtain ⟨nl, hnl⟩ : ∃ n, ql.length = n := ⟨_, rfl⟩
      rw [hnl] at hc1 hc2 C2
      simp only [ndVals] at C2
      have z0 : wr.cell? ⟨b1, o1 + k * 7, none⟩ = some (.string qm) := keepCell hBW (hc1 0 _ rfl)
      have z1 : wr.cell? ⟨b1, o1 + k * 7 + 1, none⟩ = some (.int .i64 qk) := keepCell hBW (hc1 1 _ rfl)
      have z2 : wr.cell? ⟨b1, o1 + k * 7 + 2, none⟩ = some (.int .i64 (qp : Nat)) := keepCell hBW (hc1 2 _ rfl)
      have z3 : wr.cell? ⟨b1, o1 + k * 7 + 3, none⟩ = some (.int .i64 qs) := keepCell hBW (hc1 3 _ rfl)
      have z4 : wr.cell? ⟨b1, o1 + k * 7 + 4, none⟩ = some (.int .i64 qn) := keepCell hBW (hc1 4 _ rfl)
      have z5 : wr.cell? ⟨b1, o1 + k * 7 + 5, none⟩ = some (.string qt) := keepCell hBW (hc1 5 _ rfl)
      have z6 : wr.cell? ⟨b1, o1 + k * 7 + 6, none⟩ = some (.slice aa nl cc) := keepCell hBW (hc1 6 _ rfl)
      have u0 : wr.cell? ⟨b2, o2 + k * 7, none⟩ = some (.string qm) := keepCell hBW (hc2 0 _ rfl)
      have u1 : wr.cell? ⟨b2, o2 + k * 7 + 1, none⟩ = some (.int .i64 qk) := keepCell hBW (hc2 1 _ rfl)
      have u2 : wr.cell? ⟨b2, o2 + k * 7 + 2, none⟩ = some (.int .i64 (qp : Nat)) := keepCell hBW (hc2 2 _ rfl)
      have u3 : wr.cell? ⟨b2, o2 + k * 7 + 3, none⟩ = some (.int .i64 qs) := keepCell hBW (hc2 3 _ rfl)
      have u4 : wr.cell? ⟨b2, o2 + k * 7 + 4, none⟩ = some (.int .i64 qn) := keepCell hBW (hc2 4 _ rfl)
      have u5 : wr.cell? ⟨b2, o2 + k * 7 + 5, none⟩ = some (.string qt) := keepCell hBW (hc2 5 _ rfl)
      have u6 : wr.cell? ⟨b2, o2 + k * 7 + 6, none⟩ = some (.slice ab nl cb) := keepCell hBW (hc2 6 _ rfl)
      have hB3 := Lib.hid hBW
      clear hc1 hc2 hd1 hd2 hq hnl C hBW
      go_wp2_with fail
      go_upto_region 6 with fail
      refine Hld.run_region (fun w' => Below wr.heap.size wr w') 11 (by kernel_rfl) ?_
      have SH : Below wr.heap.size wr wr.drew := (Below.refl _ _).drew
      refine Hld.Run.take (i := 0) (d := 7) (v := .pointer (some ⟨X, 6, none⟩)) rfl (by kernel_rfl) (by kernel_rfl) (by kernel_rfl) (by kernel_rfl) (by kernel_rfl) (by kernel_rfl) (fun _ _ _ h => h) (Or.inl ⟨by rfl, ?_⟩) SH ?_
      · intro w' hSw
        have z0 := keepCell hSw z0
        have z1 := keepCell hSw z1
        have z2 := keepCell hSw z2
        have z3 := keepCell hSw z3
        have z4 := keepCell hSw z4
        have z5 := keepCell hSw z5
        have z6 := keepCell hSw z6
        have u0 := keepCell hSw u0
        have u1 := keepCell hSw u1
        have u2 := keepCell hSw u2
        have u3 := keepCell hSw u3
        have u4 := keepCell hSw u4
        have u5 := keepCell hSw u5
        have u6 := keepCell hSw u6
        have x6 := keepCell hSw x6
        have y6 := keepCell hSw y6
        go_simp
      try simp only [Act.put]
      refine run_at2 #[true, false, false, false, false, false, false, false, false, false, false, false] (by kernel_rfl) ?_
      refine Hld.Run.take (i := 1) (d := 7) (v := .slice (some ⟨b1, o1, none⟩) N c1) rfl (by kernel_rfl) (by kernel_rfl) (by kernel_rfl) (by kernel_rfl) (by kernel_rfl) (by kernel_rfl) (fun _ _ _ h => h) (Or.inl ⟨by rfl, ?_⟩) SH ?_
      · intro w' hSw
        have z0 := keepCell hSw z0
        have z1 := keepCell hSw z1
        have z2 := keepCell hSw z2
        have z3 := keepCell hSw z3
        have z4 := keepCell hSw z4
        have z5 := keepCell hSw z5
        have z6 := keepCell hSw z6
        have u0 := keepCell hSw u0
        have u1 := keepCell hSw u1
        have u2 := keepCell hSw u2
        have u3 := keepCell hSw u3
        have u4 := keepCell hSw u4
        have u5 := keepCell hSw u5
        have u6 := keepCell hSw u6
        have x6 := keepCell hSw x6
        have y6 := keepCell hSw y6
        go_simp
      try simp only [Act.put]
      refine run_at2 #[true, true, false, false, false, false, false, false, false, false, false, false] (by kernel_rfl) ?_
      refine Hld.Run.take (i := 2) (d := 7) (v := .int .i64 (k : Nat)) rfl (by kernel_rfl) (by kernel_rfl) (by kernel_rfl) (by kernel_rfl) (by kernel_rfl) (by kernel_rfl) (fun _ _ _ h => h) (Or.inl ⟨by rfl, ?_⟩) SH ?_
      · intro w' hSw
        have z0 := keepCell hSw z0
        have z1 := keepCell hSw z1
        have z2 := keepCell hSw z2
        have z3 := keepCell hSw z3
        have z4 := keepCell hSw z4
        have z5 := keepCell hSw z5
        have z6 := keepCell hSw z6
        have u0 := keepCell hSw u0
        have u1 := keepCell hSw u1
        have u2 := keepCell hSw u2
        have u3 := keepCell hSw u3
        have u4 := keepCell hSw u4
        have u5 := keepCell hSw u5
        have u6 := keepCell hSw u6
        have x6 := keepCell hSw x6
        have y6 := keepCell hSw y6
        go_simp
      try simp only [Act.put]
      refine run_at2 #[true, true, true, false, false, false, false, false, false, false, false, false] (by kernel_rfl) ?_
      refine Hld.Run.take (i := 3) (d := 7) (v := .pointer (some ⟨b1, o1 + k * 7, none⟩)) rfl (by kernel_rfl) (by kernel_rfl) (by kernel_rfl) (by kernel_rfl) (by kernel_rfl) (by kernel_rfl) (fun _ _ _ h => h) (Or.inl ⟨by rfl, ?_⟩) SH ?_
      · intro w' hSw
        have z0 := keepCell hSw z0
        have z1 := keepCell hSw z1
        have z2 := keepCell hSw z2
        have z3 := keepCell hSw z3
        have z4 := keepCell hSw z4
        have z5 := keepCell hSw z5
        have z6 := keepCell hSw z6
        have u0 := keepCell hSw u0
        have u1 := keepCell hSw u1
        have u2 := keepCell hSw u2
        have u3 := keepCell hSw u3
        have u4 := keepCell hSw u4
        have u5 := keepCell hSw u5
        have u6 := keepCell hSw u6
        have x6 := keepCell hSw x6
        have y6 := keepCell hSw y6
        go_simp
      try simp only [Act.put]
      refine run_at2 #[true, true, true, true, false, false, false, false, false, false, false, false] (by kernel_rfl) ?_
      refine Hld.Run.take (i := 4) (d := 7) (v := .agg #[.string qm, .int .i64 qk, .int .i64 (qp : Nat), .int .i64 qs, .int .i64 qn, .string qt, .slice aa nl cc]) rfl (by kernel_rfl) (by kernel_rfl) (by kernel_rfl) (by kernel_rfl) (by kernel_rfl) (by kernel_rfl) (fun _ _ _ h => h) (Or.inl ⟨by rfl, ?_⟩) SH ?_
      · intro w' hSw
        have z0 := keepCell hSw z0
        have z1 := keepCell hSw z1
        have z2 := keepCell hSw z2
        have z3 := keepCell hSw z3
        have z4 := keepCell hSw z4
        have z5 := keepCell hSw z5
        have z6 := keepCell hSw z6
        have u0 := keepCell hSw u0
        have u1 := keepCell hSw u1
        have u2 := keepCell hSw u2
        have u3 := keepCell hSw u3
        have u4 := keepCell hSw u4
        have u5 := keepCell hSw u5
        have u6 := keepCell hSw u6
        have x6 := keepCell hSw x6
        have y6 := keepCell hSw y6
        go_simp
      try simp only [Act.put]
      refine run_at2 #[true, true, true, true, true, false, false, false, false, false, false, false] (by kernel_rfl) ?_
      refine Hld.Run.take (i := 5) (d := 7) (v := .pointer (some ⟨X + 1, 6, none⟩)) rfl (by kernel_rfl) (by kernel_rfl) (by kernel_rfl) (by kernel_rfl) (by kernel_rfl) (by kernel_rfl) (fun _ _ _ h => h) (Or.inl ⟨by rfl, ?_⟩) SH ?_
      · intro w' hSw
        have z0 := keepCell hSw z0
        have z1 := keepCell hSw z1
        have z2 := keepCell hSw z2
        have z3 := keepCell hSw z3
        have z4 := keepCell hSw z4
        have z5 := keepCell hSw z5
        have z6 := keepCell hSw z6
        have u0 := keepCell hSw u0
        have u1 := keepCell hSw u1
        have u2 := keepCell hSw u2
        have u3 := keepCell hSw u3
        have u4 := keepCell hSw u4
        have u5 := keepCell hSw u5
        have u6 := keepCell hSw u6
        have x6 := keepCell hSw x6
        have y6 := keepCell hSw y6
        go_simp
      try simp only [Act.put]
      refine run_at2 #[true, true, true, true, true, true, false, false, false, false, false, false] (by kernel_rfl) ?_
      refine Hld.Run.take (i := 6) (d := 7) (v := .slice (some ⟨b2, o2, none⟩) N c2) rfl (by kernel_rfl) (by kernel_rfl) (by kernel_rfl) (by kernel_rfl) (by kernel_rfl) (by kernel_rfl) (fun _ _ _ h => h) (Or.inl ⟨by rfl, ?_⟩) SH ?_
      · intro w' hSw
        have z0 := keepCell hSw z0
        have z1 := keepCell hSw z1
        have z2 := keepCell hSw z2
        have z3 := keepCell hSw z3
        have z4 := keepCell hSw z4
        have z5 := keepCell hSw z5
        have z6 := keepCell hSw z6
        have u0 := keepCell hSw u0
        have u1 := keepCell hSw u1
        have u2 := keepCell hSw u2
        have u3 := keepCell hSw u3
        have u4 := keepCell hSw u4
        have u5 := keepCell hSw u5
        have u6 := keepCell hSw u6
        have x6 := keepCell hSw x6
        have y6 := keepCell hSw y6
        go_simp
      try simp only [Act.put]
      refine run_at2 #[true, true, true, true, true, true, true, false, false, false, false, false] (by kernel_rfl) ?_
      refine Hld.Run.take (i := 7) (d := 7) (v := .int .i64 (k : Nat)) rfl (by kernel_rfl) (by kernel_rfl) (by kernel_rfl) (by kernel_rfl) (by kernel_rfl) (by kernel_rfl) (fun _ _ _ h => h) (Or.inl ⟨by rfl, ?_⟩) SH ?_
      · intro w' hSw
        have z0 := keepCell hSw z0
        have z1 := keepCell hSw z1
        have z2 := keepCell hSw z2
        have z3 := keepCell hSw z3
        have z4 := keepCell hSw z4
        have z5 := keepCell hSw z5
        have z6 := keepCell hSw z6
        have u0 := keepCell hSw u0
        have u1 := keepCell hSw u1
        have u2 := keepCell hSw u2
        have u3 := keepCell hSw u3
        have u4 := keepCell hSw u4
        have u5 := keepCell hSw u5
        have u6 := keepCell hSw u6
        have x6 := keepCell hSw x6
        have y6 := keepCell hSw y6
        go_simp
      try simp only [Act.put]
      refine run_at2 #[true, true, true, true, true, true, true, true, false, false, false, false] (by kernel_rfl) ?_
      refine Hld.Run.take (i := 8) (d := 7) (v := .pointer (some ⟨b2, o2 + k * 7, none⟩)) rfl (by kernel_rfl) (by kernel_rfl) (by kernel_rfl) (by kernel_rfl) (by kernel_rfl) (by kernel_rfl) (fun _ _ _ h => h) (Or.inl ⟨by rfl, ?_⟩) SH ?_
      · intro w' hSw
        have z0 := keepCell hSw z0
        have z1 := keepCell hSw z1
        have z2 := keepCell hSw z2
        have z3 := keepCell hSw z3
        have z4 := keepCell hSw z4
        have z5 := keepCell hSw z5
        have z6 := keepCell hSw z6
        have u0 := keepCell hSw u0
        have u1 := keepCell hSw u1
        have u2 := keepCell hSw u2
        have u3 := keepCell hSw u3
        have u4 := keepCell hSw u4
        have u5 := keepCell hSw u5
        have u6 := keepCell hSw u6
        have x6 := keepCell hSw x6
        have y6 := keepCell hSw y6
        go_simp
      try simp only [Act.put]
      refine run_at2 #[true, true, true, true, true, true, true, true, true, false, false, false] (by kernel_rfl) ?_
      refine Hld.Run.take (i := 9) (d := 7) (v := .agg #[.string qm, .int .i64 qk, .int .i64 (qp : Nat), .int .i64 qs, .int .i64 qn, .string qt, .slice ab nl cb]) rfl (by kernel_rfl) (by kernel_rfl) (by kernel_rfl) (by kernel_rfl) (by kernel_rfl) (by kernel_rfl) (fun _ _ _ h => h) (Or.inl ⟨by rfl, ?_⟩) SH ?_
      · intro w' hSw
        have z0 := keepCell hSw z0
        have z1 := keepCell hSw z1
        have z2 := keepCell hSw z2
        have z3 := keepCell hSw z3
        have z4 := keepCell hSw z4
        have z5 := keepCell hSw z5
        have z6 := keepCell hSw z6
        have u0 := keepCell hSw u0
        have u1 := keepCell hSw u1
        have u2 := keepCell hSw u2
        have u3 := keepCell hSw u3
        have u4 := keepCell hSw u4
        have u5 := keepCell hSw u5
        have u6 := keepCell hSw u6
        have x6 := keepCell hSw x6
        have y6 := keepCell hSw y6
        go_simp
      try simp only [Act.put]
      refine run_at2 #[true, true, true, true, true, true, true, true, true, true, false, false] (by kernel_rfl) ?_
      refine Hld.Run.one (i := 10) (by kernel_rfl) rfl (fun C1 hC1 => ?_)
      go_simp
      go_at_call 11
      refine (C2.out _ (hB3.out.trans (SH.mono hB3.out.size))).mono ?_; rintro e w2 ⟨rfl, hb2⟩
      refine hC1 _ _ ⟨fun _ => SH.trans (hb2.mono SH.size), ?_⟩
      have SH := SH.trans (hb2.mono SH.size)
      clear hb2 hC1 C1
      try simp only [Act.put]
      refine Hld.Run.one (i := 11) (by kernel_rfl) rfl (fun C3 hC3 => ?_)
      go_simp
      refine hC3 _ _ ⟨fun h => absurd rfl h, ?_⟩
      refine Hld.Run.done (by kernel_rfl) ?_ _
      clear hC3 C3
      have HB4 := Lib.hid (hBk.out.trans (SH.mono hBk.out.size))
      clear SH
      go_wp2_with fail
      go_roundw
      case rel => exact ⟨k + 1, by go_num, hlt, HB4⟩
      case measure => first | (simp [intOf]; done) | (simp [intOf]; omega)
    · have d1 : ¬ (k : Int) < (N : Int) := by omega
      go_wp2_with fail
      go_ret
      exact ⟨rfl, by rw [HXe.out]; exact (HXe.out ▸ BA.out).trans (hBk.out.mono (by have := BA.out.size; have := HXe.out; omega))⟩
mutual
theorem same_all : ∀ x : Nd, SnC x
  | .mk nm kd p sz n t kids => same_mk nm kd p sz n t kids (same_list kids)
theorem same_list : ∀ (l : List Nd), ∀ x ∈ l, SnC x
  | [], _, h => by simp at h
  | y :: r, x, h => by
    rcases List.mem_cons.1 h with e | h
    · rw [e]; exact same_all y
    · exact same_list r x h
end
end Go.Proofs.YtkopjmofdnlplaaGreatDoor.Ly
namespace Go.Proofs.YtkopjmofdnlplaaGreatDoor.Ly
open Go.RowKit Go.Proofs.YtkopjmofdnlplaaGreatDoor.Tm
section
variable {W : World}
set_option maxRecDepth 100000 in
set_option maxHeartbeats 4000000 in
theorem reads_walk (t root s : ByteArray) (hrm : root.size ≤ maxLen) (W : World) (hg : Err.Home W) (hM : Mx W) : Calls Tryz.prog 3 #[.string t, .string root, .string s] W fun e w' => e = .returned (.bool true) ∧ Below W.heap.size W w' := by
  have hml : 1 < W.heap.size := by
    obtain ⟨m, hm⟩ := hM
    exact World.block_lt_of_cell? W _ hm
  have C := Lib.hid (right_any (W := W) t hM hml)
  have HG := Lib.hid hg
  have HR := Lib.hid hrm
  clear hM hml hg hrm
  go_enter Tryz.func3, Tryz.ntmps3
  go_wp2_with fail
  refine (C.out).mono ?_; rintro e w1 ⟨v, l, ok, rfl, hb, ⟨va, vn, vc, rfl⟩, hl⟩
  have B1 := Lib.hid hb
  have HL := Lib.hid hl
  clear hb hl C
  cases ok with
  | false =>
    go_wp2_with fail
    go_ret
    exact ⟨rfl, B1.out⟩
  | true =>
    obtain ⟨h8, hty, hta, hck⟩ := HL.out rfl
    by_cases hs : s.size ≤ 600
    · have d1 : ¬ (600 : Int) < (s.size : Int) := by omega
      have HU := Lib.hid (show Uniq l from fun k h => (checkF_uniq l _ hck k h).2)
      have HT := Lib.hid hta
      have HW := Lib.hid (fun x hx => (hty x hx).1)
      have D := Lib.hid (docRead_any (root := root) (s := s) _ hta h8 (fun x hx => (hty x hx).1) (by omega))
      clear hta hty hck HL
      go_wp2_with fail
      refine (D.out).mono ?_; rintro e w2 ⟨kv, rfl, hb, hn, a3, m3, c3, rfl⟩
      obtain ⟨⟨⟨nm3, kd3, at3, sz3, n3, tx3, kl3⟩, fc, fa⟩, hq⟩ : ∃ q, layD l root s = q := ⟨_, rfl⟩
      rw [hq] at hn
      have HQ := Lib.hid hq
      have B2 := Lib.hid (B1.out.trans (hb.mono B1.out.size))
      have T2 := Lib.hid (HT.out.below hb)
      have N2 := Lib.hid hn
      simp only [hq, ndVals, List.toArray]
      clear hb hn hq D HT
      go_upto_region 5 with fail
      have bA : Below w2.heap.size w2 ((w2.alloc (.cells #[.string nm3, .int .i64 kd3, .int .i64 (at3 : Nat), .int .i64 sz3, .int .i64 n3, .string tx3, .slice a3 m3 c3] 27)).alloc (.cells #[.int .i64 fc, .int .i64 fa] 30)) := ((Below.refl _ _).alloc (Nat.le_refl _) _).alloc (by simp) _
      have iA : ((w2.alloc (.cells #[.string nm3, .int .i64 kd3, .int .i64 (at3 : Nat), .int .i64 sz3, .int .i64 n3, .string tx3, .slice a3 m3 c3] 27)).alloc (.cells #[.int .i64 fc, .int .i64 fa] 30)).heap[w2.heap.size]? = some (.cells #[.string nm3, .int .i64 kd3, .int .i64 (at3 : Nat), .int .i64 sz3, .int .i64 n3, .string tx3, .slice a3 m3 c3] 27) := (heap_alloc_old _ _ (by simp)).trans (heap_alloc_new _ _)
      have iF : ((w2.alloc (.cells #[.string nm3, .int .i64 kd3, .int .i64 (at3 : Nat), .int .i64 sz3, .int .i64 n3, .string tx3, .slice a3 m3 c3] 27)).alloc (.cells #[.int .i64 fc, .int .i64 fa] 30)).heap[w2.heap.size + 1]? = some (.cells #[.int .i64 fc, .int .i64 fa] 30) := by
        have := heap_alloc_new (w2.alloc (.cells #[.string nm3, .int .i64 kd3, .int .i64 (at3 : Nat), .int .i64 sz3, .int .i64 n3, .string tx3, .slice a3 m3 c3] 27)) (.cells #[.int .i64 fc, .int .i64 fa] 30)
        rwa [show (w2.alloc (.cells #[.string nm3, .int .i64 kd3, .int .i64 (at3 : Nat), .int .i64 sz3, .int .i64 n3, .string tx3, .slice a3 m3 c3] 27)).heap.size = w2.heap.size + 1 by simp] at this
      generalize ((w2.alloc (.cells #[.string nm3, .int .i64 kd3, .int .i64 (at3 : Nat), .int .i64 sz3, .int .i64 n3, .string tx3, .slice a3 m3 c3] 27)).alloc (.cells #[.int .i64 fc, .int .i64 fa] 30)) = w3 at *
      obtain ⟨X, hX⟩ : ∃ X, w2.heap.size = X := ⟨_, rfl⟩
      have B3 := Lib.hid (B2.out.trans (bA.mono B2.out.size))
      have T3 := Lib.hid (T2.out.below bA)
      have N3 := Lib.hid (NdAt.below bA _ _ N2.out)
      rw [hX] at iA iF ⊢
      have IA := Lib.hid iA
      have IF := Lib.hid iF
      clear bA iA iF hX B2 T2 N2
      have D := Lib.hid (Read_any (root := root) (s := s) _ T3.out h8 HW.out HU.out (by omega) HR.out)
      rw [HQ.out] at D
      go_wp2_with fail
      refine (D.out).mono ?_; rintro e w4 ⟨kv, ev, rfl, he, hb, hn, a4, m4, c4, rfl⟩
      simp only at he hn
      simp only [ndVals, List.toArray]
      have B4 := Lib.hid (B3.out.trans (hb.mono B3.out.size))
      have N4 := Lib.hid (NdAt.below hb _ _ N3.out)
      have M4 := Lib.hid hn
      have E4 := Lib.hid he
      have iA := (hb.block X (Array.getElem?_eq_some_iff.1 IA.out).1).trans IA.out
      have iF := (hb.block (X + 1) (Array.getElem?_eq_some_iff.1 IF.out).1).trans IF.out
      have hXl := (Array.getElem?_eq_some_iff.1 iF).1
      clear hb hn he D IA IF T3 N3 B3
      go_upto_region 6 with fail
      have bA : Below w4.heap.size w4 (w4.alloc (.cells #[.string nm3, .int .i64 kd3, .int .i64 (at3 : Nat), .int .i64 sz3, .int .i64 n3, .string tx3, .slice a4 m4 c4] 27)) := (Below.refl _ _).alloc (Nat.le_refl _) _
      have iB : (w4.alloc (.cells #[.string nm3, .int .i64 kd3, .int .i64 (at3 : Nat), .int .i64 sz3, .int .i64 n3, .string tx3, .slice a4 m4 c4] 27)).heap[w4.heap.size]? = some (.cells #[.string nm3, .int .i64 kd3, .int .i64 (at3 : Nat), .int .i64 sz3, .int .i64 n3, .string tx3, .slice a4 m4 c4] 27) := heap_alloc_new _ _
      generalize w4.alloc (.cells #[.string nm3, .int .i64 kd3, .int .i64 (at3 : Nat), .int .i64 sz3, .int .i64 n3, .string tx3, .slice a4 m4 c4] 27) = w5 at *
      obtain ⟨Y, hY⟩ : ∃ Y, w4.heap.size = Y := ⟨_, rfl⟩
      have B5 := Lib.hid (B4.out.trans (bA.mono B4.out.size))
      have N5 := Lib.hid (NdAt.below bA _ _ N4.out)
      have M5 := Lib.hid (NdAt.below bA _ _ M4.out)
      have E5 := Lib.hid (E4.out.below bA)
      replace iA := (bA.block X (by omega)).trans iA
      replace iF := (bA.block (X + 1) (by omega)).trans iF
      rw [hY] at iB ⊢
      clear bA hY B4 N4 M4 E4
      have P := Lib.hid (Chr.placed_any ev fc fa fc fa w5 (HG.out.below B5.out) E5.out)
      have et : (fc == fc && fa == fa) = true := by simp
      rw [et] at P
      have f0 : w5.cell? ⟨X + 1, 0, none⟩ = some (.int .i64 fc) := by unfold World.cell?; rw [iF]; rfl
      have f1 : w5.cell? ⟨X + 1, 1, none⟩ = some (.int .i64 fa) := by unfold World.cell?; rw [iF]; rfl
      have IA := Lib.hid iA
      have IB := Lib.hid iB
      clear iA iF iB et E5
      go_wp2_with fail
      refine (P.out).mono ?_; rintro e w6 ⟨rfl, hb⟩
      have iA := (hb.block X (Array.getElem?_eq_some_iff.1 IA.out).1).trans IA.out
      have iB := (hb.block Y (Array.getElem?_eq_some_iff.1 IB.out).1).trans IB.out
      have B6 := Lib.hid (B5.out.trans (hb.mono B5.out.size))
      have S := Lib.hid (same_all (.mk nm3 kd3 at3 sz3 n3 tx3 kl3) w5 (.slice a4 m4 c4) (.slice a3 m3 c3) w6 M5.out N5.out hb)
      simp only [ndVals, List.toArray] at S
      have x0 : w6.cell? ⟨X, 0, none⟩ = some (.string nm3) := by unfold World.cell?; rw [iA]; rfl
      have x1 : w6.cell? ⟨X, 1, none⟩ = some (.int .i64 kd3) := by unfold World.cell?; rw [iA]; rfl
      have x2 : w6.cell? ⟨X, 2, none⟩ = some (.int .i64 (at3 : Nat)) := by unfold World.cell?; rw [iA]; rfl
      have x3 : w6.cell? ⟨X, 3, none⟩ = some (.int .i64 sz3) := by unfold World.cell?; rw [iA]; rfl
      have x4 : w6.cell? ⟨X, 4, none⟩ = some (.int .i64 n3) := by unfold World.cell?; rw [iA]; rfl
      have x5 : w6.cell? ⟨X, 5, none⟩ = some (.string tx3) := by unfold World.cell?; rw [iA]; rfl
      have x6 : w6.cell? ⟨X, 6, none⟩ = some (.slice a3 m3 c3) := by unfold World.cell?; rw [iA]; rfl
      have y0 : w6.cell? ⟨Y, 0, none⟩ = some (.string nm3) := by unfold World.cell?; rw [iB]; rfl
      have y1 : w6.cell? ⟨Y, 1, none⟩ = some (.int .i64 kd3) := by unfold World.cell?; rw [iB]; rfl
      have y2 : w6.cell? ⟨Y, 2, none⟩ = some (.int .i64 (at3 : Nat)) := by unfold World.cell?; rw [iB]; rfl
      have y3 : w6.cell? ⟨Y, 3, none⟩ = some (.int .i64 sz3) := by unfold World.cell?; rw [iB]; rfl
      have y4 : w6.cell? ⟨Y, 4, none⟩ = some (.int .i64 n3) := by unfold World.cell?; rw [iB]; rfl
      have y5 : w6.cell? ⟨Y, 5, none⟩ = some (.string tx3) := by unfold World.cell?; rw [iB]; rfl
      have y6 : w6.cell? ⟨Y, 6, none⟩ = some (.slice a4 m4 c4) := by unfold World.cell?; rw [iB]; rfl
      clear hb P iA iB IA IB f0 f1
      go_wp2_with fail
      refine (S.out).mono ?_; rintro e w7 ⟨rfl, hb⟩
      have B7 := Lib.hid (B6.out.trans (hb.mono B6.out.size))
      clear hb S
      go_wp2_with fail
      go_ret
      exact ⟨rfl, B7.out⟩
    · have d1 : (600 : Int) < (s.size : Int) := by omega
      clear hty hta hck
      go_wp2_with fail
      go_ret
      exact ⟨rfl, B1.out⟩
end
end Go.Proofs.YtkopjmofdnlplaaGreatDoor.Ly
