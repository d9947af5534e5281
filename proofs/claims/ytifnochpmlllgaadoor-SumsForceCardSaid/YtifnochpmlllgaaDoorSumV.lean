/-
  PROVED HERE: the contract of sums.Force. Conditions: as each theorem states.
-/
import Derived.Test.YtifnochpmlllgaaDoorSumU
import Derived.Test.YtifnochpmlllgaaDoorZer
namespace Go.Proofs.YtifnochpmlllgaaDoor.Sum
open Go.RowKit
theorem andNot_mask (n w : Nat) (hn : n < 4294967296) (hw : w ≤ 32) : (bits .andNot .u32 (n : Int) ((2 ^ w - 1 : Nat) : Int) == 0) = decide (n < 2 ^ w) := by
  have h : bits .andNot .u32 (n : Int) ((2 ^ w - 1 : Nat) : Int) = IntKind.u32.wrap ((BitVec.ofInt 32 (n : Int) &&& ~~~ BitVec.ofInt 32 ((2 ^ w - 1 : Nat) : Int)).toNat : Nat) := rfl
  have h32 : (2 : Nat) ^ w ≤ 4294967296 := Nat.le_trans (Nat.pow_le_pow_right (by decide) hw) (by decide)
  have hp := Nat.two_pow_pos w
  have e1 : ((n : Int) % ((2 ^ 32 : Nat) : Int)).toNat = n := by omega
  have e2 : (((2 ^ w - 1 : Nat) : Int) % ((2 ^ 32 : Nat) : Int)).toNat = 2 ^ w - 1 := by omega
  have hb : ∀ i, (BitVec.ofInt 32 (n : Int) &&& ~~~ BitVec.ofInt 32 ((2 ^ w - 1 : Nat) : Int)).toNat.testBit i = (n.testBit i && (decide (i < 32) && !decide (i < w))) := by
    intro i
    rw [BitVec.toNat_and, Nat.testBit_and, BitVec.toNat_ofInt, e1, BitVec.toNat_not, BitVec.toNat_ofInt, e2]
    congr 1
    rw [show 2 ^ 32 - 1 - (2 ^ w - 1) = 2 ^ 32 - (2 ^ w - 1 + 1) by omega, Nat.testBit_two_pow_sub_succ (by omega), Nat.testBit_two_pow_sub_one]
  have hlt := (BitVec.ofInt 32 (n : Int) &&& ~~~ BitVec.ofInt 32 ((2 ^ w - 1 : Nat) : Int)).isLt
  rw [h]
  generalize (BitVec.ofInt 32 (n : Int) &&& ~~~ BitVec.ofInt 32 ((2 ^ w - 1 : Nat) : Int)).toNat = x at *
  have hwr : IntKind.u32.wrap (x : Int) = x := by rw [IntKind.wrap_u32]; omega
  rw [hwr]
  by_cases hc : n < 2 ^ w
  · rw [decide_eq_true hc]
    have hx : x = 0 := by
      apply Nat.eq_of_testBit_eq
      intro i
      rw [hb, Nat.zero_testBit]
      by_cases hi : i < w
      · rw [decide_eq_true hi]; simp
      · rw [Nat.testBit_lt_two_pow (Nat.lt_of_lt_of_le hc (Nat.pow_le_pow_right (by decide) (by omega)))]; simp
    rw [hx]; rfl
  · rw [decide_eq_false hc, beq_eq_false_iff_ne]
    intro hx
    apply hc
    have hx0 : x = 0 := by omega
    apply Nat.lt_pow_two_of_testBit
    intro i hi
    have := hb i
    rw [hx0, Nat.zero_testBit] at this
    by_cases hi32 : i < 32
    · rw [decide_eq_true hi32, decide_eq_false (show ¬ i < w by omega)] at this
      simpa using this.symm
    · exact Nat.testBit_lt_two_pow (Nat.lt_of_lt_of_le hn (Nat.le_trans (by decide : 4294967296 ≤ 2 ^ 32) (Nat.pow_le_pow_right (by decide) (by omega))))
theorem buf_made (W : World) (w : Nat) (t : Bool) (d n : Nat) (hn : n ≤ 1000) : Buf (W.alloc (.cells (madeCells #[.int .u8 0] n) 5)) W.heap.size (fb w t d n 0) := by
  have ho := own_full W W.heap.size 5 n (.int .u8 0) (Nat.le_refl _) (by omega)
  refine ⟨by simp, fun j hj => ?_⟩
  rw [fb_len] at hj
  rcases ho.form with ⟨he, _⟩ | ⟨g, cap, he, _, _, hc, hz⟩
  · simp at he
  · simp only [Value.slice.injEq, Option.some.injEq, Addr.mk.injEq] at he
    rw [he.1.1]
    refine ⟨(hc j (by simpa using hj)).trans ?_, hz j⟩
    simp [fb]
theorem Cs.set {wr : World} {g w P : Nat} {t : Bool} {I O : Nat} (h : Cs wr g w P t I O) {G j : Nat} (u : Value) (hne : g ≠ G) : Cs (wr.setCell ⟨G, j, none⟩ u) g w P t I O := by
  have hn : ∀ o, (⟨G, j, none⟩ : Addr) ≠ ⟨g, o, none⟩ := fun o hh => by injection hh with h1 h2; exact hne h1.symm
  exact ⟨(World.cell?_setCell_other _ _ _ _ (hn 0)).trans h.1, (World.cell?_setCell_other _ _ _ _ (hn 1)).trans h.2.1, (World.cell?_setCell_other _ _ _ _ (hn 2)).trans h.2.2.1, (World.cell?_setCell_other _ _ _ _ (hn 3)).trans h.2.2.2.1, (World.cell?_setCell_other _ _ _ _ (hn 4)).trans h.2.2.2.2⟩
set_option maxRecDepth 100000 in
set_option maxHeartbeats 2000000 in
theorem force_far (w P : Nat) (t : Bool) (I O : Nat) (s : ByteArray) (q : Int) (n : Nat) (hw : w = 8 ∨ w = 16 ∨ w = 32) (hodd : P % 2 = 1) (hP : P < 2 ^ w) (hI : I < 2 ^ w) (hO : O < 2 ^ w) (hn : n < 4294967296) (hfar : q < 0 ∨ (s.size : Int) < q ∨ 2 ^ w ≤ n) (W : World) :
    Calls Tryd.prog 48 #[Sm w P t I O, .string s, .int .i64 q, .int .u32 n] W (FP ⟨#[]⟩ (.iface 23 (.int .i64 2)) W) := by
  have h32 : (2 : Nat) ^ w ≤ 4294967296 := by rcases hw with rfl | rfl | rfl <;> decide
  have R := Lib.hid (right_any w P t I O (by omega) (by omega) (by omega) (by omega))
  rw [decide_eq_true (show good w P I O from ⟨by omega, hodd, by simpa using hP, by simpa using hI, by simpa using hO⟩)] at R
  have M := Lib.hid (fun W => (mask_any w hw W).mono fun _ _ (h : _ ∧ _) => (⟨h.1, h.2.symm⟩ : _ ∧ _))
  have A := andNot_mask n w hn (by omega)
  generalize ((2 ^ w - 1 : Nat) : Int) = m at *
  have A2 : (bits .andNot .u32 (n : Int) m != 0) = !decide (n < 2 ^ w) := by rw [← A]; rfl
  unfold Sm at R ⊢
  clear hw h32
  by_cases h1 : q < 0
  · clear A A2 hfar
    go_enter Tryd.func48, Tryd.ntmps48
    go_wp2_with fail
    refine (R.out _).mono ?_; rintro e w1 ⟨rfl, h1⟩
    have H1 := Lib.hid (((Below.refl W.heap.size W).alloc (Nat.le_refl _) _).trans (h1.mono (by simp)))
    clear h1
    go_wp2_with fail
    go_ret2
    exact ⟨rfl, H1.out⟩
  by_cases h2 : (s.size : Int) < q
  · clear A A2 hfar
    go_enter Tryd.func48, Tryd.ntmps48
    go_wp2_with fail
    refine (R.out _).mono ?_; rintro e w1 ⟨rfl, h1⟩
    have H1 := Lib.hid (((Below.refl W.heap.size W).alloc (Nat.le_refl _) _).trans (h1.mono (by simp)))
    clear h1
    go_wp2_with fail
    go_ret2
    exact ⟨rfl, H1.out⟩
  · have h3 : ¬ n < 2 ^ w := by omega
    rw [decide_eq_false h3] at A A2
    clear hfar h3
    go_enter Tryd.func48, Tryd.ntmps48
    go_wp2_with fail
    refine (R.out _).mono ?_; rintro e w1 ⟨rfl, h1⟩
    have H1 := Lib.hid (((Below.refl W.heap.size W).alloc (Nat.le_refl _) _).trans (h1.mono (by simp)))
    have hc0 : w1.cell? ⟨W.heap.size, 0, none⟩ = some (.int .i64 w) := keepCell h1 (by simp)
    clear h1
    go_wp2_with fail
    refine (M.out _).mono ?_; rintro e w' ⟨rfl, rfl⟩
    go_wp2_with fail
    go_ret2
    exact ⟨rfl, H1.out⟩
set_option maxRecDepth 100000 in
set_option maxHeartbeats 4000000 in
theorem force_yes (w P : Nat) (t : Bool) (I O : Nat) (s : ByteArray) (q n : Nat) (N : Nat) (hN : w = 8 * N) (hw : w = 8 ∨ w = 16 ∨ w = 32) (hs : s.size ≤ 1000) (hodd : P % 2 = 1) (hP : P < 2 ^ w) (hI : I < 2 ^ w) (hO : O < 2 ^ w) (hn : n < 2 ^ w) (hq : q ≤ s.size) (d : Nat) (hd : d = cr w P t I s q ^^^ bz w P (tb w P t s (inn w t n O) (s.size - q)) N) (W : World) :
    Calls Tryd.prog 48 #[Sm w P t I O, .string s, .int .i64 q, .int .u32 n] W (FP ⟨(fb w t d N N).toArray⟩ .nilIface W) := by
  have h32 : (2 : Nat) ^ w ≤ 4294967296 := by rcases hw with rfl | rfl | rfl <;> decide
  have hw8 : 8 ≤ w := by omega
  have R := Lib.hid (right_any w P t I O (by omega) (by omega) (by omega) (by omega))
  rw [decide_eq_true (show good w P I O from ⟨by omega, hodd, by simpa using hP, by simpa using hI, by simpa using hO⟩)] at R
  have M := Lib.hid (fun W => (mask_any w hw W).mono fun _ _ (h : _ ∧ _) => (⟨h.1, h.2.symm⟩ : _ ∧ _))
  have A := andNot_mask n w (by omega) (by omega)
  rw [decide_eq_true hn] at A
  have A2 : (bits .andNot .u32 (n : Int) ((2 ^ w - 1 : Nat) : Int) != 0) = false := by rw [bne, A]; rfl
  have ST := Lib.hid (fun r c h1 h2 W => step_any w hw P t I O r c hP h1 h2 W)
  have BK := Lib.hid (fun r c h1 h2 W => back_any w hw P t I O r c hP h1 h2 W)
  have IN := Lib.hid (in_any w (by omega) P t I O n (by omega) (by omega))
  have LT := Lib.hid (fun k => cr_lt w P t I s hw hP hI k)
  have hil := inn_lt w t n O hn hO
  have LB := Lib.hid (fun k => tb_lt w P t s (inn w t n O) hw8 hP hil k)
  have ilH := Lib.hid hil
  have T8 := Lib.hid (fun c (h : c < 256) => turned_any c 8 (by decide) (by omega))
  have hmk := fun W => run_make_row' (P := Tryd.prog) 106 5 (.int .u8 0) 1 Tryd.underlying106 (by kernel_rfl) rfl .i64 .i64 N (by omega) (by omega) W
  have e8 : (w : Int) / 8 = (N : Int) := by omega
  have HW : Hid (w = 8 ∨ w = 16 ∨ w = 32) := Lib.hid hw
  have HN := Lib.hid hN
  have HP := Lib.hid hP
  have h32H := Lib.hid h32
  have hdH := Lib.hid hd
  have hN4 : N ≤ 4 := by omega
  have hN1 : 1 ≤ N := by omega
  have hw32 : w ≤ 32 := by omega
  generalize ((2 ^ w - 1 : Nat) : Int) = m at *
  unfold Sm at R ST BK IN ⊢
  have q0 : decide ((q : Int) < 0) = false := decide_eq_false (by omega)
  have q1 : decide (s.size < q) = false := decide_eq_false (by omega)
  clear hw h32 hN hd hil
  go_enter Tryd.func48, Tryd.ntmps48
  go_wp2_with fail
  refine (R.out _).mono ?_; rintro e w1 ⟨rfl, h1⟩
  have H1 := Lib.hid (((Below.refl W.heap.size W).alloc (Nat.le_refl _) _).trans (h1.mono (by simp)))
  have C1 : Hid (Cs w1 W.heap.size w P t I O) := Lib.hid (Cs.below ⟨by simp, by simp, by simp, by simp, by simp⟩ h1)
  obtain ⟨c0, -, -, c3, -⟩ := C1.out
  clear h1
  go_wp2_with fail
  refine (M.out _).mono ?_; rintro e w' ⟨rfl, rfl⟩
  go_wp2_with fail
  clear c0 c3 A A2
  go_loopw [10, 42] (fun a i wr => ∃ k r : Nat, k ≤ q ∧ i = .int .i64 k ∧ a = .int .u32 r ∧ Hid (r = cr w P t I s k) ∧ Hid (Cs wr W.heap.size w P t I O) ∧ Hid (Below W.heap.size W wr)) (fun _ i _ => q - (intOf i).toNat)
  case atStart => exact ⟨0, I, Nat.zero_le _, rfl, rfl, Lib.hid rfl, C1, H1⟩
  case round =>
    obtain ⟨k, r, hk, rfl, rfl, hr, hC, hBH⟩ := hrel
    obtain ⟨d0, d1, d2, d3, d4⟩ := hC.out
    have hrl : Hid (r < 2 ^ w) := Lib.hid (by rw [hr.out]; exact LT.out k)
    by_cases hlt : k < q
    · have hb := Lib.hid (byteAt_eq s k (by omega))
      have hb3 : s[k].toNat < 256 := UInt8.toNat_lt _
      have i1 : (0 : Int) ≤ (k : Int) := by omega
      have i2 : (k : Int) < (s.size : Int) := by omega
      go_wp2_with fail
      go_region_with ((go_at_call 91; refine (ST.out _ _ hrl.out hb3 _).mono ?_; rintro e w2 ⟨rfl, h2⟩))
      all_goals
        have hC2 := Lib.hid (Cs.below (wr := wr.drew) hC.out h2)
        have hB2 := Lib.hid (hBH.out.drew.trans (h2.mono hBH.out.size))
        clear h2
        go_wp2_with fail
        go_roundw
        case rel => first | exact ⟨k + 1, _, by omega, by go_num, rfl, Lib.hid (by rw [cr, ← hr.out, ← hb.out]), hC2, hB2⟩ | ((repeat apply Exists.intro); exact ⟨⟨k + 1, _, by omega, by go_num, rfl, Lib.hid (by rw [cr, ← hr.out, ← hb.out]), hC2, hB2⟩, rfl⟩)
        case measure => simp [intOf]; omega
    · obtain rfl : k = q := by omega
      go_wp2_with fail
      refine (IN.out _).mono ?_; rintro e w2 ⟨rfl, h2⟩
      have hC2 := Lib.hid (hC.out.below h2)
      have hB2 := Lib.hid (hBH.out.trans (h2.mono hBH.out.size))
      clear h2 d0 d1 d2 d3 d4
      go_wp2_with fail
      go_loopw [12, 13] (fun a i wq => ∃ j x : Nat, j ≤ s.size - k ∧ i = .int .i64 ((s.size : Int) - 1 - j) ∧ a = .int .u32 x ∧ Hid (x = tb w P t s (inn w t n O) j) ∧ Hid (Cs wq W.heap.size w P t I O) ∧ Hid (Below W.heap.size W wq)) (fun _ i _ => (intOf i + 1 - k).toNat)
      case atStart => exact ⟨0, _, Nat.zero_le _, by simp, rfl, Lib.hid rfl, hC2, hB2⟩
      case round =>
        obtain ⟨j, x, hj, rfl, rfl, hx, hC3, hB3⟩ := hrel
        obtain ⟨d0, d1, d2, d3, d4⟩ := hC3.out
        have hxl : Hid (x < 2 ^ w) := Lib.hid (by rw [hx.out]; exact LB.out j)
        by_cases hlt2 : j < s.size - k
        · obtain ⟨y, hy⟩ : ∃ y : Nat, (s.size : Int) - 1 - j = y := ⟨s.size - 1 - j, by omega⟩
          have hy' : s.size - 1 - j = y := by omega
          have hys : y < s.size := by omega
          have hb := Lib.hid (byteAt_eq s y hys)
          have hb3 : s[y].toNat < 256 := UInt8.toNat_lt _
          have i1 : (0 : Int) ≤ (y : Int) := by omega
          have i2 : (y : Int) < (s.size : Int) := by omega
          have i3 : (k : Int) ≤ (y : Int) := by omega
          have hyH := Lib.hid hy'
          have hm : Hid ((s.size : Int) - 1 - (j + 1 : Nat) = (y : Int) - 1) := Lib.hid (by omega)
          clear hy'
          rw [hy]
          have hyI := Lib.hid hy
          clear hy
          go_wp2_with fail
          go_region_with ((go_at_call 95; refine (BK.out _ _ hxl.out hb3 _).mono ?_; rintro e w3 ⟨rfl, h3⟩))
          all_goals
            have hC4 := Lib.hid (Cs.below (wr := wr.drew) hC3.out h3)
            have hB4 := Lib.hid (hB3.out.drew.trans (h3.mono hB3.out.size))
            clear h3
            go_wp2_with fail
            go_roundw
            case rel => exact ⟨j + 1, _, by omega, by rw [hm.out], rfl, Lib.hid (by rw [tb, ← hx.out, hyH.out, ← hb.out]), hC4, hB4⟩
            case measure => have := hyI.out; simp [intOf]; omega
        · obtain rfl : j = s.size - k := by omega
          have t1 : (s.size : Int) - 1 - (s.size - k : Nat) = (k : Int) - 1 := by omega
          rw [t1]
          clear t1
          go_wp2_with fail
          go_loopw [12, 73] (fun a i wz => ∃ m x : Nat, m ≤ N ∧ i = .int .i64 m ∧ a = .int .u32 x ∧ Hid (x = bz w P (tb w P t s (inn w t n O) (s.size - k)) m) ∧ Hid (Cs wz W.heap.size w P t I O) ∧ Hid (Below W.heap.size W wz)) (fun _ i _ => N - (intOf i).toNat)
          case atStart => exact ⟨0, _, Nat.zero_le _, rfl, rfl, hx, hC3, hB3⟩
          case round =>
            obtain ⟨m, x2, hm, rfl, rfl, hx2, hC5, hB5⟩ := hrel
            clear d0 d1 d2 d3 d4
            obtain ⟨d0, d1, d2, d3, d4⟩ := hC5.out
            have hxl2 : Hid (x2 < 2 ^ w) := Lib.hid (by rw [hx2.out]; exact bz_lt w P _ m (by omega) HP.out (LB.out _))
            by_cases hlt3 : m < N
            · go_wp2_with fail
              refine (BK.out _ 0 hxl2.out (by decide) _).mono ?_; rintro e w3 ⟨rfl, h3⟩
              have hC6 := Lib.hid (Cs.below hC5.out h3)
              have hB6 := Lib.hid (hB5.out.trans (h3.mono hB5.out.size))
              clear h3
              go_wp2_with fail
              go_roundw
              case rel => exact ⟨m + 1, _, by omega, by go_num, rfl, Lib.hid (by rw [hx2.out, bz_succ]), hC6, hB6⟩
              case measure => simp [intOf]; omega
            · obtain rfl : m = N := by omega
              have hrl32 : r < 4294967296 := Nat.lt_of_lt_of_le hrl.out h32H.out
              have hxl32 : x2 < 4294967296 := Nat.lt_of_lt_of_le hxl2.out h32H.out
              obtain ⟨D, hD, hDl, hDe⟩ : ∃ D : Nat, bits .xor .u32 (r : Int) (x2 : Int) = D ∧ D < 4294967296 ∧ D = d := ⟨r ^^^ x2, u32_xor_nat r x2 hrl32 hxl32, Nat.xor_lt_two_pow (n := 32) hrl32 hxl32, by rw [hdH.out, hr.out, hx2.out]⟩
              have hDeH := Lib.hid hDe
              clear hDe
              go_wp2_with fail
              obtain ⟨G, hG, hGW⟩ : ∃ G, G = wr.heap.size ∧ W.heap.size < G := ⟨_, rfl, World.block_lt_of_cell? _ _ hC5.out.1⟩
              have b0 : Hid (Buf (wr.alloc (.cells (madeCells #[.int .u8 0] m) 5)) G (fb w t d m 0)) := Lib.hid (by rw [hG]; exact buf_made wr w t d m (by omega))
              have b1 : Hid (Cs (wr.alloc (.cells (madeCells #[.int .u8 0] m) 5)) W.heap.size w P t I O) := Lib.hid (hC5.out.below ((Below.refl _ _).alloc (Nat.le_refl _) _))
              have b2 : Hid (Below W.heap.size W (wr.alloc (.cells (madeCells #[.int .u8 0] m) 5))) := Lib.hid (hB5.out.alloc hB5.out.size _)
              rw [← hG]
              generalize wr.alloc (.cells (madeCells #[.int .u8 0] m) 5) = wm at *
              clear hG hmk
              go_loopw [85] (fun i wv => ∃ j : Nat, j ≤ m ∧ i = .int .i64 j ∧ Hid (Buf wv G (fb w t d m j)) ∧ Hid (Cs wv W.heap.size w P t I O) ∧ Hid (Below W.heap.size W wv)) (fun i _ => m - (intOf i).toNat)
              case atStart => exact ⟨0, Nat.zero_le _, rfl, b0, b1, b2⟩
              case round =>
                obtain ⟨j, hj, rfl, hBu, hC7, hB7⟩ := hrel
                clear d0 d1 d2 d3 d4
                obtain ⟨d0, -, d2, -, -⟩ := hC7.out
                by_cases hlt4 : j < m
                · obtain ⟨w8, hw8'⟩ : ∃ w8 : Nat, (w : Int) - 8 = w8 := ⟨w - 8, by omega⟩
                  obtain ⟨k8, hk8⟩ : ∃ k8 : Nat, 8 * (j : Int) = k8 := ⟨8 * j, by omega⟩
                  obtain ⟨sf, hsf⟩ : ∃ sf : Nat, (w8 : Int) - k8 = sf := ⟨w8 - k8, by have := HN.out; omega⟩
                  have hcl := dby_lt w d j
                  have htl := tc_lt t _ hcl
                  obtain ⟨c, hc, hcd⟩ : ∃ c : Nat, (D : Int) / 2 ^ sf % 256 = c ∧ c = dby w d j := ⟨D / 2 ^ sf % 256, by rw [Int.natCast_emod, Int.natCast_ediv, Int.natCast_pow]; rfl, by rw [hDeH.out, dby, show w - 8 - 8 * j = sf by omega]⟩
                  rw [← hcd] at hcl htl
                  have TT := Lib.hid (T8.out c hcl)
                  have hS := Lib.hid (fb_set w t d m j)
                  rw [← hcd] at hS
                  have hsf31 : sf ≤ 32 := by omega
                  have i1 : (0 : Int) ≤ (j : Int) := by omega
                  have i2 : (j : Int) < (m : Int) := by omega
                  obtain ⟨hcell, hfz⟩ := hBu.out.2 j (by rw [fb_len]; exact hlt4)
                  have hg := hBu.out.1
                  have e2 : c % 256 = c := by omega
                  have hlen := Lib.hid (fb_len w t d m j)
                  clear hcd
                  obtain ⟨z, hz⟩ : ∃ z, wr.cell? ⟨G, j, none⟩ = some z := ⟨_, hcell⟩
                  clear hcell
                  have d2' : (wr.setCell ⟨G, j, none⟩ (.int .u8 c)).cell? ⟨W.heap.size, 2, none⟩ = some (.bool t) := (World.cell?_setCell_other _ _ _ _ (fun hh => by injection hh; omega)).trans d2
                  have hz' : (wr.setCell ⟨G, j, none⟩ (.int .u8 c)).cell? ⟨G, j, none⟩ = some (.int .u8 c) := World.cell?_setCell_same _ _ _ hz
                  have hB8 := Lib.hid (hBu.out.set_ j (UInt8.ofNat (tc t c)) (by rw [hlen.out]; exact hlt4))
                  rw [hS.out, UInt8.toNat_ofNat', show tc t c % 2 ^ 8 = tc t c by omega] at hB8
                  have hN8 := Lib.hid (hB7.out.setCell (p := ⟨G, j, none⟩) (Nat.le_of_lt hGW) (.int .u8 (tc t c : Nat)))
                  have hC8 := Lib.hid (fun u => hC7.out.set (j := j) u (show W.heap.size ≠ G by omega))
                  have hB9 := Lib.hid ((hBu.out.set_ j (UInt8.ofNat c) (by rw [hlen.out]; exact hlt4)).set_ j (UInt8.ofNat (tc t c)) (by rw [List.length_set, hlen.out]; exact hlt4))
                  rw [List.set_set, hS.out, UInt8.toNat_ofNat', UInt8.toNat_ofNat', show tc t c % 2 ^ 8 = tc t c by omega, show c % 2 ^ 8 = c by omega] at hB9
                  have hN9 := Lib.hid ((hB7.out.setCell (p := ⟨G, j, none⟩) (Nat.le_of_lt hGW) (.int .u8 (c : Nat))).setCell (p := ⟨G, j, none⟩) (Nat.le_of_lt hGW) (.int .u8 (tc t c : Nat)))
                  have hC9 := Lib.hid (fun u => (hC8.out (.int .u8 c)).set (j := j) u (show W.heap.size ≠ G by omega))
                  have hrv8 : rv c 8 < 256 := rv_lt c 8
                  clear d2
                  cases t
                  · go_wp2_with fail
                    go_roundw
                    case rel => first | exact ⟨j + 1, by omega, by go_num, hB8, Lib.hid (hC8.out _), hN8⟩ | ((repeat apply Exists.intro); exact ⟨⟨j + 1, by omega, by go_num, hB8, Lib.hid (hC8.out _), hN8⟩, rfl⟩)
                    case measure => simp [intOf]; omega
                  · go_wp2_with fail
                    refine (TT.out _).mono ?_; rintro e w' ⟨rfl, rfl⟩
                    go_wp2_with fail
                    go_roundw
                    case rel => first | exact ⟨j + 1, by omega, by go_num, hB9, Lib.hid (hC9.out _), hN9⟩ | ((repeat apply Exists.intro); exact ⟨⟨j + 1, by omega, by go_num, hB9, Lib.hid (hC9.out _), hN9⟩, rfl⟩)
                    case measure => simp [intOf]; omega
                · obtain rfl : j = m := by omega
                  have hback : (convert 106 9 (.slice (some ⟨G, 0, none⟩) j j)).run Tryd.prog wr = .ok (.string ⟨(fb w t d j j).toArray⟩) wr := by
                    have := run_convert_bytes_back (P := Tryd.prog) wr 106 9 5 ⟨G, 0, none⟩ j (fb w t d j j) Tryd.underlying106 Tryd.underlying5 Tryd.underlying9
                      (fun i hi => by
                        have h := (hBu.out.2 i hi).1
                        rw [Addr.add_mid, Nat.zero_add]; exact h)
                    rw [fb_len] at this
                    exact this
                  go_wp2_with fail
                  go_ret2
                  exact ⟨rfl, hB7.out⟩
end Go.Proofs.YtifnochpmlllgaaDoor.Sum
