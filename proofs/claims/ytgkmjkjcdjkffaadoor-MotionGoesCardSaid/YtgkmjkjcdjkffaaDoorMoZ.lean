/-
  PROVED HERE: that the law MotionGoes returns true. Conditions: as each theorem states.
-/
import Derived.Test.YtgkmjkjcdjkffaaDoorMoO
import Derived.Test.YtgkmjkjcdjkffaaDoorKeyH
import Derived.Test.YtgkmjkjcdjkffaaDoorKeyIm
namespace Go.Proofs.YtgkmjkjcdjkffaaDoor.Mo
open Go.RowKit
theorem kp_good (l : List UInt8) (h : (Key.kp l).2.2 = 1) : Key.Good (Key.kp l).1 := by
  unfold Key.kp at h ⊢
  cases e : Key.pp l with
  | more => rw [e] at h; simp at h
  | done c r => exact Key.pp_good e
  | bad r w => rw [e] at h; simp at h
theorem dyc_fin : ∀ n : Fin 256, (Key.dyc (UInt8.ofNat n.val) = true → n.val = 100 ∨ n.val = 121 ∨ n.val = 99) ∧ (Key.dyc (UInt8.ofNat n.val) = false → n.val ≠ 100 ∧ n.val ≠ 121 ∧ n.val ≠ 99) := by decide +kernel
theorem dyc_is (c : UInt8) (h : Key.dyc c = true) : c.toNat = 100 ∨ c.toNat = 121 ∨ c.toNat = 99 := by
  have := (dyc_fin ⟨c.toNat, UInt8.toNat_lt c⟩).1
  have e : UInt8.ofNat c.toNat = c := UInt8.ofNat_toNat
  simp only [e] at this
  exact this h
theorem dyc_no (c : UInt8) (h : ¬ Key.dyc c = true) : c.toNat ≠ 100 ∧ c.toNat ≠ 121 ∧ c.toNat ≠ 99 := by
  have := (dyc_fin ⟨c.toNat, UInt8.toNat_lt c⟩).2
  have e : UInt8.ofNat c.toNat = c := UInt8.ofNat_toNat
  simp only [e] at this
  exact this (by cases g : Key.dyc c <;> simp_all)
theorem place_in (x : Int) (m : Nat) (hm : m ≤ 1000) : ∃ A : Nat, wrap64 ((IntKind.u64.wrap x).tmod (max (m : Int) 1)) = (A : Int) ∧ (A = 0 ∨ A < m) := by
  have h0 : 0 ≤ IntKind.u64.wrap x := by rw [IntKind.wrap_u64]; omega
  rw [Int.tmod_eq_emod_of_nonneg h0]
  have h1 := Int.emod_nonneg (IntKind.u64.wrap x) (show max (m : Int) 1 ≠ 0 by omega)
  have h2 := Int.emod_lt_of_pos (IntKind.u64.wrap x) (show 0 < max (m : Int) 1 by omega)
  generalize IntKind.u64.wrap x % max (m : Int) 1 = y at *
  refine ⟨y.toNat, ?_, by omega⟩
  unfold wrap64
  omega
def PrR (ps : List Int) (L : Nat) (w3 : World) (i : Value) (wr : World) : Prop := ∃ k : Nat, k ≤ ps.length ∧ i = .int .i64 k ∧ Hid (∀ j (hj : j < ps.length), j < k → 0 ≤ ps[j] ∧ ps[j] ≤ L) ∧ wr = w3
set_option maxRecDepth 100000 in
set_option maxHeartbeats 4000000 in
theorem motion_walk (a0 : ByteArray) (at1 : Int) (w1 : -9223372036854775808 ≤ at1 ∧ at1 ≤ 9223372036854775807) (v2 : Value) (ms : List Int) (mo : Option Nat) (ml : Nat) (f : Nat → Int × Bool) (v4 : Value) (ps : List Int) (a5 : ByteArray) (W : World) (hg : Err.Home W)
    (hi1 : Ints W v2 ms) (hmb : ∀ x ∈ ms, -9223372036854775808 ≤ x ∧ x ≤ 9223372036854775807) (hM : Marks W mo f) (hl : ∀ ty, (Builtin.len_ #[23] ty #[.map mo]).run Tryd.prog W = .ok (.int .i64 (ml : Int)) W) (hi2 : Ints W v4 ps) :
    Calls Tryd.prog 3 #[.string a0, .int .i64 at1, v2, .map mo, v4, .string a5] W fun e w' => e = .returned (.bool true) ∧ Below W.heap.size W w' := by
  obtain ⟨p1, q1, rfl, hc1⟩ := id hi1
  obtain ⟨p2, q2, rfl, hc2⟩ := id hi2
  clear hc1
  by_cases s0 : 300 < a0.size
  · go_enter Tryd.func3, Tryd.ntmps3
    go_wp2_with fail
    go_ret
    exact ⟨rfl, Below.refl _ _⟩
  by_cases s1 : 140 < ms.length
  · go_enter Tryd.func3, Tryd.ntmps3
    go_wp2_with fail
    go_ret
    exact ⟨rfl, Below.refl _ _⟩
  by_cases s2 : 30 < ml
  · go_enter Tryd.func3, Tryd.ntmps3
    go_wp2_with fail
    go_ret
    exact ⟨rfl, Below.refl _ _⟩
  by_cases s3 : 60 < ps.length
  · go_enter Tryd.func3, Tryd.ntmps3
    go_wp2_with fail
    go_ret
    exact ⟨rfl, Below.refl _ _⟩
  by_cases s4 : 20 < a5.size
  · go_enter Tryd.func3, Tryd.ntmps3
    go_wp2_with fail
    go_ret
    exact ⟨rfl, Below.refl _ _⟩
  have t0 : a0.size ≤ 300 := by omega
  have t1 : ms.length ≤ 140 := by omega
  have t2 : ml ≤ 30 := by omega
  have t3 : ps.length ≤ 60 := by omega
  have t4 : a5.size ≤ 20 := by omega
  clear s0 s1 s2 s3 s4
  obtain ⟨A, hA, hAL⟩ := place_in at1 a0.size (by omega)
  have D1 := fun w => Key.docParse_any a5 (by omega) w
  have hgood := kp_good (Key.lst a5)
  unfold Key.KP at D1
  generalize Key.kp (Key.lst a5) = kq at *
  obtain ⟨c, n5, wh⟩ := kq
  obtain ⟨reg, num, op, mv, ag⟩ := c
  unfold Key.Cv at D1
  simp only at D1 hgood
  obtain ⟨ar, har⟩ : ∃ ar : ByteArray, (⟨ag.toArray⟩ : ByteArray) = ar := ⟨_, rfl⟩
  have harg : Key.lst ar = ag := by rw [← har]; rfl
  rw [har] at D1
  rw [← harg] at hgood
  clear har harg
  have HP := Lib.hid D1
  have HG := Lib.hid hgood
  have IM := Lib.hid (fun w => (Key.isMotion_any reg num op mv ar w).mono fun e w' ⟨x1, x2⟩ => (⟨x1, by subst x2; exact (Below.refl _ _).alloc (Nat.le_refl _) _⟩ : e = Ending.returned (.bool (Key.mo op mv)) ∧ Below w.heap.size w w'))
  clear D1 hgood
  by_cases hw : wh = 1
  · subst hw
    have good := HG.out rfl
    have hnum := good.n
    clear HG
    go_enter Tryd.func3, Tryd.ntmps3
    go_wp2_with fail
    refine (HP.out _).mono ?_; rintro e w1' ⟨rfl, g1⟩
    have G1 := Lib.hid g1
    clear g1
    go_wp2_with fail
    obtain ⟨w3, hw3⟩ : ∃ w3, w3 = ((w1'.alloc (.cells #[.int .u8 reg.toNat, .int .i64 num, .int .u8 op.toNat, .int .u8 mv.toNat, .string ar] 26)).alloc (.cells #[.string a0, .int .i64 (A : Int), .slice p1 ms.length q1, .map mo, .slice p2 ps.length q2] 30)).alloc (.cells #[.string a0, .int .i64 (A : Int), .slice p1 ms.length q1, .map mo, .slice p2 ps.length q2] 33) := ⟨_, rfl⟩
    rw [← hw3]
    have x0 : w3.cell? ⟨w1'.heap.size, 0, none⟩ = some (.int .u8 reg.toNat) := by rw [hw3]; simp [go_sem]
    have x1 : w3.cell? ⟨w1'.heap.size, 1, none⟩ = some (.int .i64 num) := by rw [hw3]; simp [go_sem]
    have x2 : w3.cell? ⟨w1'.heap.size, 2, none⟩ = some (.int .u8 op.toNat) := by rw [hw3]; simp [go_sem]
    have x3 : w3.cell? ⟨w1'.heap.size, 3, none⟩ = some (.int .u8 mv.toNat) := by rw [hw3]; simp [go_sem]
    have x4 : w3.cell? ⟨w1'.heap.size, 4, none⟩ = some (.string ar) := by rw [hw3]; simp [go_sem]
    have y0 : w3.cell? ⟨w1'.heap.size + 1, 0, none⟩ = some (.string a0) := by rw [hw3]; simp [go_sem]
    have y1 : w3.cell? ⟨w1'.heap.size + 1, 1, none⟩ = some (.int .i64 (A : Int)) := by rw [hw3]; simp [go_sem]
    have y2 : w3.cell? ⟨w1'.heap.size + 1, 2, none⟩ = some (.slice p1 ms.length q1) := by rw [hw3]; simp [go_sem]
    have y3 : w3.cell? ⟨w1'.heap.size + 1, 3, none⟩ = some (.map mo) := by rw [hw3]; simp [go_sem]
    have y4 : w3.cell? ⟨w1'.heap.size + 1, 4, none⟩ = some (.slice p2 ps.length q2) := by rw [hw3]; simp [go_sem]
    have z0 : w3.cell? ⟨w1'.heap.size + 1 + 1, 0, none⟩ = some (.string a0) := by rw [hw3]; simp [go_sem]
    have z1 : w3.cell? ⟨w1'.heap.size + 1 + 1, 1, none⟩ = some (.int .i64 (A : Int)) := by rw [hw3]; simp [go_sem]
    have z2 : w3.cell? ⟨w1'.heap.size + 1 + 1, 2, none⟩ = some (.slice p1 ms.length q1) := by rw [hw3]; simp [go_sem]
    have z3 : w3.cell? ⟨w1'.heap.size + 1 + 1, 3, none⟩ = some (.map mo) := by rw [hw3]; simp [go_sem]
    have z4 : w3.cell? ⟨w1'.heap.size + 1 + 1, 4, none⟩ = some (.slice p2 ps.length q2) := by rw [hw3]; simp [go_sem]
    have B3 : Hid (Below W.heap.size W w3) := Lib.hid (by rw [hw3]; exact ((G1.out.alloc G1.out.size _).alloc (by have := G1.out.size; simp; omega) _).alloc (by have := G1.out.size; simp; omega) _)
    clear hw3
    have HC := Lib.hid hc2
    clear hc2
    go_loopw [18] (fun i wr => PrR ps a0.size w3 i wr) (fun i _ => ps.length - (intOf i).toNat)
    case atStart => exact ⟨0, Nat.zero_le _, rfl, Lib.hid (fun j hj h => absurd h (Nat.not_lt_zero _)), rfl⟩
    case round =>
      obtain ⟨k, hk, rfl, hn, rfl⟩ := hrel
      by_cases hlt : k < ps.length
      · obtain ⟨ad, rfl, hck⟩ := HC.out k hlt
        have hcc := keepCell B3.out hck
        clear hck
        by_cases c1 : ps[k] < 0
        · generalize ps[k] = x at *
          go_wp2_with fail
          go_ret
          exact ⟨rfl, B3.out⟩
        · by_cases c2 : (a0.size : Int) < ps[k]
          · have c1' : 0 ≤ ps[k] := by omega
            clear c1
            generalize ps[k] = x at *
            go_wp2_with fail
            go_ret
            exact ⟨rfl, B3.out⟩
          · have c1' : 0 ≤ ps[k] := by omega
            have c2' : ps[k] ≤ (a0.size : Int) := by omega
            have HN : Hid (∀ j (hj : j < ps.length), j < k + 1 → 0 ≤ ps[j] ∧ ps[j] ≤ a0.size) := Lib.hid (fun j hj hjk => by
              by_cases e : j = k
              · subst e; exact ⟨c1', c2'⟩
              · exact hn.out j hj (by omega))
            clear c1 c2 hn
            generalize ps[k] = x at *
            go_wp2_with fail
            go_roundw
            case rel => first | exact ⟨k + 1, by omega, by go_num, HN, rfl⟩ | ((repeat apply Exists.intro); exact ⟨⟨k + 1, by omega, by go_num, HN, rfl⟩, rfl⟩)
            case measure => simp [intOf]; omega
      · obtain rfl : k = ps.length := by omega
        have hps : ∀ x ∈ ps, 0 ≤ x ∧ x ≤ a0.size := fun x hx => by
          obtain ⟨j, hj, rfl⟩ := List.getElem_of_mem hx
          exact hn.out j hj hj
        have HPS := Lib.hid hps
        have GH := Lib.hid good
        clear hn hps good HC
        by_cases hmo : Key.mo op mv = true
        · rw [hmo] at IM
          have hmo2 := hmo
          unfold Key.mo at hmo2
          rw [Bool.and_eq_true] at hmo2
          have hz : mv = 0 := by
            have := of_decide_eq_true hmo2.1
            exact UInt8.toNat_inj.1 this
          obtain ⟨N, b, c, _, AG, AD⟩ := alike_any op hmo2.2 ar (GH.out.one hz hmo2.2) a0 (by omega) A hAL num hnum ms ps (by omega) hmb (by omega) HPS.out p1 ms.length q1 mo p2 ps.length q2 f W hi1 hi2 hM
          have AGH := Lib.hid AG
          have ADH := Lib.hid AD
          clear AG AD hmo hmo2 hz
          go_wp2_with fail
          refine (IM.out _).mono ?_; rintro e w4 ⟨rfl, h4⟩
          have x0 := keepCell h4 x0
          have x1 := keepCell h4 x1
          have x2 := keepCell h4 x2
          have x3 := keepCell h4 x3
          have x4 := keepCell h4 x4
          have y0 := keepCell h4 y0
          have y1 := keepCell h4 y1
          have y2 := keepCell h4 y2
          have y3 := keepCell h4 y3
          have y4 := keepCell h4 y4
          have z0 := keepCell h4 z0
          have z1 := keepCell h4 z1
          have z2 := keepCell h4 z2
          have z3 := keepCell h4 z3
          have z4 := keepCell h4 z4
          have B4 := Lib.hid (B3.out.trans (h4.mono B3.out.size))
          clear h4
          go_wp2_with fail
          refine (ADH.out _ B4.out).mono ?_; rintro e w5 ⟨rfl, h5⟩
          have x0 := keepCell h5 x0
          have x1 := keepCell h5 x1
          have x2 := keepCell h5 x2
          have x3 := keepCell h5 x3
          have x4 := keepCell h5 x4
          have y0 := keepCell h5 y0
          have y1 := keepCell h5 y1
          have y2 := keepCell h5 y2
          have y3 := keepCell h5 y3
          have y4 := keepCell h5 y4
          have z0 := keepCell h5 z0
          have z1 := keepCell h5 z1
          have z2 := keepCell h5 z2
          have z3 := keepCell h5 z3
          have z4 := keepCell h5 z4
          have B5 := Lib.hid (B4.out.trans (h5.mono B4.out.size))
          clear h5
          go_wp2_with fail
          refine (AGH.out _ B5.out).mono ?_; rintro e w6 ⟨x, rfl, hx, h6⟩
          have B6 := Lib.hid (B5.out.trans (h6.mono B5.out.size))
          have BA := Lib.hid (Err.bare_any x c (-1) c w6 (hg.below B6.out) (hx.is w6))
          clear h6 hx
          go_wp2_with fail
          refine BA.out.mono ?_; rintro e w7 ⟨rfl, h7⟩
          have B7 := Lib.hid (B6.out.trans (h7.mono B6.out.size))
          clear h7
          go_wp2_with fail
          go_ret
          exact ⟨by simp, B7.out⟩
        · have hmo3 : Key.mo op mv = false := by cases e : Key.mo op mv <;> simp_all
          rw [hmo3] at IM
          by_cases hd : Key.dyc op = true
          · obtain ⟨F, T, C, AG, AD⟩ := alikeS_any (reg.toNat : Int) op mv ar (GH.out.two hd) a0 (by omega) A hAL num hnum ms ps (by omega) hmb (by omega) HPS.out p1 ms.length q1 mo p2 ps.length q2 f W hi1 hi2 hM
            have AGH := Lib.hid AG
            have ADH := Lib.hid AD
            clear AG AD hmo hmo3
            rcases dyc_is op hd with e | e | e
            · have n1 : ((op.toNat : Int) != 100) = false := by rw [bne_eq_false_iff_eq]; omega
              clear e hd
              go_wp2_with fail
              refine (IM.out _).mono ?_; rintro e w4 ⟨rfl, h4⟩
              have x0 := keepCell h4 x0
              have x1 := keepCell h4 x1
              have x2 := keepCell h4 x2
              have x3 := keepCell h4 x3
              have x4 := keepCell h4 x4
              have y0 := keepCell h4 y0
              have y1 := keepCell h4 y1
              have y2 := keepCell h4 y2
              have y3 := keepCell h4 y3
              have y4 := keepCell h4 y4
              have z0 := keepCell h4 z0
              have z1 := keepCell h4 z1
              have z2 := keepCell h4 z2
              have z3 := keepCell h4 z3
              have z4 := keepCell h4 z4
              have B4 := Lib.hid (B3.out.trans (h4.mono B3.out.size))
              clear h4
              go_wp2_with fail
              refine (ADH.out _ B4.out).mono ?_; rintro e w5 ⟨rfl, h5⟩
              have x0 := keepCell h5 x0
              have x1 := keepCell h5 x1
              have x2 := keepCell h5 x2
              have x3 := keepCell h5 x3
              have x4 := keepCell h5 x4
              have y0 := keepCell h5 y0
              have y1 := keepCell h5 y1
              have y2 := keepCell h5 y2
              have y3 := keepCell h5 y3
              have y4 := keepCell h5 y4
              have z0 := keepCell h5 z0
              have z1 := keepCell h5 z1
              have z2 := keepCell h5 z2
              have z3 := keepCell h5 z3
              have z4 := keepCell h5 z4
              have B5 := Lib.hid (B4.out.trans (h5.mono B4.out.size))
              clear h5
              go_wp2_with fail
              refine (AGH.out _ B5.out).mono ?_; rintro e w6 ⟨x, rfl, hx, h6⟩
              have B6 := Lib.hid (B5.out.trans (h6.mono B5.out.size))
              have B7 := Lib.hid (B6.out.alloc B6.out.size (.cells #[.int .i64 F, .int .i64 T] 46))
              have BA := Lib.hid (Err.bare_any x C (-1) C (w6.alloc (.cells #[.int .i64 F, .int .i64 T] 46)) (hg.below B7.out) (hx.is _))
              clear h6 hx
              go_wp2_with fail
              refine BA.out.mono ?_; rintro e w7 ⟨rfl, h7⟩
              have r0 : w7.cell? ⟨w6.heap.size, 0, none⟩ = some (.int .i64 F) := keepCell h7 (by simp)
              have r1 : w7.cell? ⟨w6.heap.size, 1, none⟩ = some (.int .i64 T) := keepCell h7 (by simp)
              have B8 := Lib.hid (B7.out.trans (h7.mono B7.out.size))
              clear h7
              go_wp2_with fail
              go_ret
              exact ⟨by simp, B8.out⟩
            · have n1 : ((op.toNat : Int) != 100) = true := by rw [bne_iff_ne]; omega
              have n2 : ((op.toNat : Int) != 121) = false := by rw [bne_eq_false_iff_eq]; omega
              clear e hd
              go_wp2_with fail
              refine (IM.out _).mono ?_; rintro e w4 ⟨rfl, h4⟩
              have x0 := keepCell h4 x0
              have x1 := keepCell h4 x1
              have x2 := keepCell h4 x2
              have x3 := keepCell h4 x3
              have x4 := keepCell h4 x4
              have y0 := keepCell h4 y0
              have y1 := keepCell h4 y1
              have y2 := keepCell h4 y2
              have y3 := keepCell h4 y3
              have y4 := keepCell h4 y4
              have z0 := keepCell h4 z0
              have z1 := keepCell h4 z1
              have z2 := keepCell h4 z2
              have z3 := keepCell h4 z3
              have z4 := keepCell h4 z4
              have B4 := Lib.hid (B3.out.trans (h4.mono B3.out.size))
              clear h4
              go_wp2_with fail
              refine (ADH.out _ B4.out).mono ?_; rintro e w5 ⟨rfl, h5⟩
              have x0 := keepCell h5 x0
              have x1 := keepCell h5 x1
              have x2 := keepCell h5 x2
              have x3 := keepCell h5 x3
              have x4 := keepCell h5 x4
              have y0 := keepCell h5 y0
              have y1 := keepCell h5 y1
              have y2 := keepCell h5 y2
              have y3 := keepCell h5 y3
              have y4 := keepCell h5 y4
              have z0 := keepCell h5 z0
              have z1 := keepCell h5 z1
              have z2 := keepCell h5 z2
              have z3 := keepCell h5 z3
              have z4 := keepCell h5 z4
              have B5 := Lib.hid (B4.out.trans (h5.mono B4.out.size))
              clear h5
              go_wp2_with fail
              refine (AGH.out _ B5.out).mono ?_; rintro e w6 ⟨x, rfl, hx, h6⟩
              have B6 := Lib.hid (B5.out.trans (h6.mono B5.out.size))
              have B7 := Lib.hid (B6.out.alloc B6.out.size (.cells #[.int .i64 F, .int .i64 T] 46))
              have BA := Lib.hid (Err.bare_any x C (-1) C (w6.alloc (.cells #[.int .i64 F, .int .i64 T] 46)) (hg.below B7.out) (hx.is _))
              clear h6 hx
              go_wp2_with fail
              refine BA.out.mono ?_; rintro e w7 ⟨rfl, h7⟩
              have r0 : w7.cell? ⟨w6.heap.size, 0, none⟩ = some (.int .i64 F) := keepCell h7 (by simp)
              have r1 : w7.cell? ⟨w6.heap.size, 1, none⟩ = some (.int .i64 T) := keepCell h7 (by simp)
              have B8 := Lib.hid (B7.out.trans (h7.mono B7.out.size))
              clear h7
              go_wp2_with fail
              go_ret
              exact ⟨by simp, B8.out⟩
            · have n1 : ((op.toNat : Int) != 100) = true := by rw [bne_iff_ne]; omega
              have n2 : ((op.toNat : Int) != 121) = true := by rw [bne_iff_ne]; omega
              have n3 : ((op.toNat : Int) != 99) = false := by rw [bne_eq_false_iff_eq]; omega
              clear e hd
              go_wp2_with fail
              refine (IM.out _).mono ?_; rintro e w4 ⟨rfl, h4⟩
              have x0 := keepCell h4 x0
              have x1 := keepCell h4 x1
              have x2 := keepCell h4 x2
              have x3 := keepCell h4 x3
              have x4 := keepCell h4 x4
              have y0 := keepCell h4 y0
              have y1 := keepCell h4 y1
              have y2 := keepCell h4 y2
              have y3 := keepCell h4 y3
              have y4 := keepCell h4 y4
              have z0 := keepCell h4 z0
              have z1 := keepCell h4 z1
              have z2 := keepCell h4 z2
              have z3 := keepCell h4 z3
              have z4 := keepCell h4 z4
              have B4 := Lib.hid (B3.out.trans (h4.mono B3.out.size))
              clear h4
              go_wp2_with fail
              refine (ADH.out _ B4.out).mono ?_; rintro e w5 ⟨rfl, h5⟩
              have x0 := keepCell h5 x0
              have x1 := keepCell h5 x1
              have x2 := keepCell h5 x2
              have x3 := keepCell h5 x3
              have x4 := keepCell h5 x4
              have y0 := keepCell h5 y0
              have y1 := keepCell h5 y1
              have y2 := keepCell h5 y2
              have y3 := keepCell h5 y3
              have y4 := keepCell h5 y4
              have z0 := keepCell h5 z0
              have z1 := keepCell h5 z1
              have z2 := keepCell h5 z2
              have z3 := keepCell h5 z3
              have z4 := keepCell h5 z4
              have B5 := Lib.hid (B4.out.trans (h5.mono B4.out.size))
              clear h5
              go_wp2_with fail
              refine (AGH.out _ B5.out).mono ?_; rintro e w6 ⟨x, rfl, hx, h6⟩
              have B6 := Lib.hid (B5.out.trans (h6.mono B5.out.size))
              have B7 := Lib.hid (B6.out.alloc B6.out.size (.cells #[.int .i64 F, .int .i64 T] 46))
              have BA := Lib.hid (Err.bare_any x C (-1) C (w6.alloc (.cells #[.int .i64 F, .int .i64 T] 46)) (hg.below B7.out) (hx.is _))
              clear h6 hx
              go_wp2_with fail
              refine BA.out.mono ?_; rintro e w7 ⟨rfl, h7⟩
              have r0 : w7.cell? ⟨w6.heap.size, 0, none⟩ = some (.int .i64 F) := keepCell h7 (by simp)
              have r1 : w7.cell? ⟨w6.heap.size, 1, none⟩ = some (.int .i64 T) := keepCell h7 (by simp)
              have B8 := Lib.hid (B7.out.trans (h7.mono B7.out.size))
              clear h7
              go_wp2_with fail
              go_ret
              exact ⟨by simp, B8.out⟩
          · obtain ⟨e1, e2, e3⟩ := dyc_no op hd
            have n1 : ((op.toNat : Int) != 100) = true := by rw [bne_iff_ne]; omega
            have n2 : ((op.toNat : Int) != 121) = true := by rw [bne_iff_ne]; omega
            have n3 : ((op.toNat : Int) != 99) = true := by rw [bne_iff_ne]; omega
            clear hd e1 e2 e3 hmo hmo3
            go_wp2_with fail
            refine (IM.out _).mono ?_; rintro e w4 ⟨rfl, h4⟩
            have x0 := keepCell h4 x0
            have x1 := keepCell h4 x1
            have x2 := keepCell h4 x2
            have x3 := keepCell h4 x3
            have x4 := keepCell h4 x4
            have y0 := keepCell h4 y0
            have y1 := keepCell h4 y1
            have y2 := keepCell h4 y2
            have y3 := keepCell h4 y3
            have y4 := keepCell h4 y4
            have z0 := keepCell h4 z0
            have z1 := keepCell h4 z1
            have z2 := keepCell h4 z2
            have z3 := keepCell h4 z3
            have z4 := keepCell h4 z4
            have B4 := Lib.hid (B3.out.trans (h4.mono B3.out.size))
            clear h4
            go_wp2_with fail
            go_ret
            exact ⟨rfl, B4.out⟩
  · have hw2 : ((wh : Int) != 1) = true := by rw [bne_iff_ne]; omega
    have hw3 : ((wh : Int) == 1) = false := by rw [beq_eq_false_iff_ne]; omega
    clear HG
    go_enter Tryd.func3, Tryd.ntmps3
    go_wp2_with fail
    refine (HP.out _).mono ?_; rintro e w1' ⟨rfl, g1⟩
    have G1 := Lib.hid (Below.alloc g1 g1.size (.cells #[.int .u8 reg.toNat, .int .i64 num, .int .u8 op.toNat, .int .u8 mv.toNat, .string ar] 26))
    clear g1
    go_wp2_with fail
    go_ret
    exact ⟨rfl, G1.out⟩
end Go.Proofs.YtgkmjkjcdjkffaaDoor.Mo
