/-
  PROVED HERE: the contract of the document's Go at the keys w, b, f. Conditions: as each theorem states.
-/
import Derived.Test.YtgkmjkjcdjkffaaDoorMoF
namespace Go.Proofs.YtgkmjkjcdjkffaaDoor.Mo
open Go.RowKit
def WwR (A k : Nat) (w1 : World) (kv av : Value) (wr : World) : Prop := ∃ q a : Nat, q ≤ k ∧ a ≤ A + 4 * k + 4 ∧ kv = .int .i64 q ∧ av = .int .i64 a ∧ ((q = k ∧ a = A) ∨ (a % 4 = 0 ∧ a + 4 * q = A - A % 4 + 4 * k)) ∧ wr = w1
def WbR (A k : Nat) (w1 : World) (kv av : Value) (wr : World) : Prop := ∃ q a : Nat, q ≤ k ∧ a ≤ A ∧ kv = .int .i64 q ∧ av = .int .i64 a ∧ ((q = k ∧ a = A) ∨ (a % 4 = 0 ∧ (a : Int) = max 0 (((A : Int) + 3) / 4 * 4 - 4 * ((k : Int) - q)))) ∧ wr = w1
set_option maxRecDepth 100000 in
set_option maxHeartbeats 4000000 in
theorem dgo_w (s : ByteArray) (hs : s.size ≤ 1000) (A : Nat) (hA : A ≤ s.size) (n : Nat) (hn : n ≤ 9999) (arg : ByteArray) (a1 : Option Addr) (n1 c1 : Nat) (mo : Option Nat) (a2 : Option Addr) (n2 c2 : Nat) (W : World) :
    Calls Tryd.prog 6 #[.agg #[.string s, .int .i64 (A : Int), .slice a1 n1 c1, .map mo, .slice a2 n2 c2], .int .u8 119, .int .i64 n, .string arg] W (GD (bnd s.size (A - A % 4 + 4 * (max n 1 : Nat))) false 0 W) := by
  have HB := Lib.hid (fun (m : Int) (hm : -9223372036854775808 ≤ m ∧ m ≤ 9223372036854775807) W => docBound_any s hs A m hm a1 n1 c1 mo a2 n2 c2 W)
  have d16 : ((A : Nat) : Int).tdiv 16 = (A : Int) / 16 := Int.tdiv_eq_ediv_of_nonneg (by omega)
  obtain ⟨k, hk⟩ : ∃ k, max n 1 = k := ⟨_, rfl⟩
  have hmx : max (n : Int) 1 = (k : Int) := by omega
  have hk1 : 1 ≤ k ∧ k ≤ 9999 := by omega
  obtain ⟨hk1, hk2⟩ := hk1
  rw [hk]
  clear hk
  go_enter Tryd.func6, Tryd.ntmps6
  go_wp2_with fail
  obtain ⟨w1, hw1⟩ : ∃ w1, w1 = W.alloc (.cells #[.string s, .int .i64 A, .slice a1 n1 c1, .map mo, .slice a2 n2 c2] 30) := ⟨_, rfl⟩
  rw [← hw1]
  have b0 : w1.cell? ⟨W.heap.size, 0, none⟩ = some (.string s) := by rw [hw1]; simp
  have b1 : w1.cell? ⟨W.heap.size, 1, none⟩ = some (.int .i64 A) := by rw [hw1]; simp
  have b2 : w1.cell? ⟨W.heap.size, 2, none⟩ = some (.slice a1 n1 c1) := by rw [hw1]; simp
  have b3 : w1.cell? ⟨W.heap.size, 3, none⟩ = some (.map mo) := by rw [hw1]; simp
  have b4 : w1.cell? ⟨W.heap.size, 4, none⟩ = some (.slice a2 n2 c2) := by rw [hw1]; simp
  have B1 : Hid (Below W.heap.size W w1) := Lib.hid (by rw [hw1]; exact (Below.refl _ _).alloc (Nat.le_refl _) _)
  clear hw1
  go_wp2_with fail
  go_loopw [11, 14] (fun kv av wr => WwR A k w1 kv av wr) (fun kv _ _ => (intOf kv).toNat)
  case atStart => exact ⟨k, A, Nat.le_refl _, by omega, rfl, rfl, .inl ⟨rfl, rfl⟩, rfl⟩
  case round =>
    obtain ⟨q, a, hq, ha, rfl, rfl, hi, rfl⟩ := hrel
    by_cases hlt : 0 < q
    · have t4 : ((a : Nat) : Int).tmod 4 = (a : Int) % 4 := Int.tmod_eq_emod_of_nonneg (by omega)
      have hlt' : (0 : Int) < (q : Int) := by omega
      have h2 : ((q - 1 = k ∧ a + (4 - a % 4) = A) ∨ ((a + (4 - a % 4)) % 4 = 0 ∧ a + (4 - a % 4) + 4 * (q - 1) = A - A % 4 + 4 * k)) := by omega
      have H2 := Lib.hid h2
      clear h2 hi
      go_wp2_with fail
      go_roundw
      case rel => first | exact ⟨q - 1, a + (4 - a % 4), by omega, by have := H2.out; omega, congrArg (Value.int .i64) (by omega), congrArg (Value.int .i64) (by omega), H2.out, rfl⟩ | ((repeat apply Exists.intro); exact ⟨⟨q - 1, a + (4 - a % 4), by omega, by have := H2.out; omega, congrArg (Value.int .i64) (by omega), congrArg (Value.int .i64) (by omega), H2.out, rfl⟩, rfl⟩)
      case measure => simp [intOf]; omega
    · obtain rfl : q = 0 := by omega
      clear hlt
      go_wp2_with fail
      refine (HB.out _ (by omega) _).mono ?_; rintro e w0 ⟨rfl, h0⟩
      have H0 := Lib.hid (B1.out.trans (h0.mono B1.out.size))
      clear h0
      go_wp2_with fail
      go_ret3
      exact ⟨tup3d (congrArg (bnd s.size) (by omega)) _ _, H0.out⟩
set_option maxRecDepth 100000 in
set_option maxHeartbeats 4000000 in
theorem dgo_b (s : ByteArray) (hs : s.size ≤ 1000) (A : Nat) (hA : A ≤ s.size) (n : Nat) (hn : n ≤ 9999) (arg : ByteArray) (a1 : Option Addr) (n1 c1 : Nat) (mo : Option Nat) (a2 : Option Addr) (n2 c2 : Nat) (W : World) :
    Calls Tryd.prog 6 #[.agg #[.string s, .int .i64 (A : Int), .slice a1 n1 c1, .map mo, .slice a2 n2 c2], .int .u8 98, .int .i64 n, .string arg] W (GD (bnd s.size ((A + 3) / 4 * 4 - 4 * (max n 1 : Nat))) false 0 W) := by
  have HB := Lib.hid (fun (m : Int) (hm : -9223372036854775808 ≤ m ∧ m ≤ 9223372036854775807) W => docBound_any s hs A m hm a1 n1 c1 mo a2 n2 c2 W)
  have d16 : ((A : Nat) : Int).tdiv 16 = (A : Int) / 16 := Int.tdiv_eq_ediv_of_nonneg (by omega)
  obtain ⟨k, hk⟩ : ∃ k, max n 1 = k := ⟨_, rfl⟩
  have hmx : max (n : Int) 1 = (k : Int) := by omega
  have hk1 : 1 ≤ k ∧ k ≤ 9999 := by omega
  obtain ⟨hk1, hk2⟩ := hk1
  rw [hk]
  clear hk
  go_enter Tryd.func6, Tryd.ntmps6
  go_wp2_with fail
  obtain ⟨w1, hw1⟩ : ∃ w1, w1 = W.alloc (.cells #[.string s, .int .i64 A, .slice a1 n1 c1, .map mo, .slice a2 n2 c2] 30) := ⟨_, rfl⟩
  rw [← hw1]
  have b0 : w1.cell? ⟨W.heap.size, 0, none⟩ = some (.string s) := by rw [hw1]; simp
  have b1 : w1.cell? ⟨W.heap.size, 1, none⟩ = some (.int .i64 A) := by rw [hw1]; simp
  have b2 : w1.cell? ⟨W.heap.size, 2, none⟩ = some (.slice a1 n1 c1) := by rw [hw1]; simp
  have b3 : w1.cell? ⟨W.heap.size, 3, none⟩ = some (.map mo) := by rw [hw1]; simp
  have b4 : w1.cell? ⟨W.heap.size, 4, none⟩ = some (.slice a2 n2 c2) := by rw [hw1]; simp
  have B1 : Hid (Below W.heap.size W w1) := Lib.hid (by rw [hw1]; exact (Below.refl _ _).alloc (Nat.le_refl _) _)
  clear hw1
  go_wp2_with fail
  go_loopw [11, 14] (fun kv av wr => WbR A k w1 kv av wr) (fun kv _ _ => (intOf kv).toNat)
  case atStart => exact ⟨k, A, Nat.le_refl _, Nat.le_refl _, rfl, rfl, .inl ⟨rfl, rfl⟩, rfl⟩
  case round =>
    obtain ⟨q, a, hq, ha, rfl, rfl, hi, rfl⟩ := hrel
    by_cases hlt : 0 < q
    · obtain ⟨x, hx⟩ : ∃ x : Nat, (a - 1) / 4 * 4 = x := ⟨_, rfl⟩
      have t4 : (((a : Nat) : Int) - 1).tdiv 4 * 4 = (x : Int) := by
        rcases Nat.eq_zero_or_pos a with rfl | h
        · subst hx; decide
        · rw [Int.tdiv_eq_ediv_of_nonneg (by omega)]; omega
      have t5 : (((a : Nat) : Int) - 1).tdiv 4 = (x : Int) / 4 := by omega
      have t6 : (x : Int) / 4 * 4 = (x : Int) := by omega
      have hlt' : (0 : Int) < (q : Int) := by omega
      have x0 : (0 : Int) ≤ (x : Int) := by omega
      have h2 : ((q - 1 = k ∧ x = A) ∨ (x % 4 = 0 ∧ (x : Int) = max 0 (((A : Int) + 3) / 4 * 4 - 4 * ((k : Int) - (q - 1 : Nat))))) := by omega
      have h3 : x ≤ A := by omega
      have H2 := Lib.hid h2
      clear h2 hi hx
      go_wp2_with fail
      go_roundw
      case rel => first | exact ⟨q - 1, x, by omega, h3, congrArg (Value.int .i64) (by omega), congrArg (Value.int .i64) (by omega), H2.out, rfl⟩ | ((repeat apply Exists.intro); exact ⟨⟨q - 1, x, by omega, h3, congrArg (Value.int .i64) (by omega), congrArg (Value.int .i64) (by omega), H2.out, rfl⟩, rfl⟩)
      case measure => simp [intOf]; omega
    · obtain rfl : q = 0 := by omega
      clear hlt
      go_wp2_with fail
      refine (HB.out _ (by omega) _).mono ?_; rintro e w0 ⟨rfl, h0⟩
      have H0 := Lib.hid (B1.out.trans (h0.mono B1.out.size))
      clear h0
      go_wp2_with fail
      go_ret3
      exact ⟨tup3d (by unfold bnd; omega) _ _, H0.out⟩
def faRd (s : ByteArray) (c : Nat) (Z : Option Nat) (w1 : World) (k i : Value) (wr : World) : Prop := ∃ p q : Nat, 1 ≤ q ∧ q ≤ 10000 ∧ p ≤ s.size + 1 ∧ i = .int .i64 p ∧ k = .int .i64 q ∧ Hid (fs s c p q = Z) ∧ wr = w1
set_option maxRecDepth 100000 in
set_option maxHeartbeats 4000000 in
theorem dgo_f (s : ByteArray) (hs : s.size ≤ 1000) (A : Nat) (hA : A ≤ s.size) (n : Nat) (hn : n ≤ 9999) (arg : ByteArray) (a1 : Option Addr) (n1 c1 : Nat) (mo : Option Nat) (a2 : Option Addr) (n2 c2 : Nat) (W : World) (h2 : arg.size = 2) (hd0 : 0 ≤ Dig.dig (byteAt arg 0)) (hd1 : 0 ≤ Dig.dig (byteAt arg 1)) (c : Nat) (hc : c = (Dig.dig (byteAt arg 0) * 16 + Dig.dig (byteAt arg 1)).toNat) :
    Calls Tryd.prog 6 #[.agg #[.string s, .int .i64 (A : Int), .slice a1 n1 c1, .map mo, .slice a2 n2 c2], .int .u8 102, .int .i64 n, .string arg] W (GD (faN (fs s c (A + 1) (max n 1))) (faB (fs s c (A + 1) (max n 1))) (faC (fs s c (A + 1) (max n 1))) W) := by
  have HB := Lib.hid (fun (m : Int) (hm : -9223372036854775808 ≤ m ∧ m ≤ 9223372036854775807) W => docBound_any s hs A m hm a1 n1 c1 mo a2 n2 c2 W)
  have d16 : ((A : Nat) : Int).tdiv 16 = (A : Int) / 16 := Int.tdiv_eq_ediv_of_nonneg (by omega)
  obtain ⟨k, hk⟩ : ∃ k, max n 1 = k := ⟨_, rfl⟩
  have hmx : max (n : Int) 1 = (k : Int) := by omega
  have hk1 : 1 ≤ k ∧ k ≤ 9999 := by omega
  obtain ⟨hk1, hk2⟩ := hk1
  rw [hk]
  clear hk
  have hdb := Dig.dig_bounds (byteAt arg 0)
  have hdb2 := Dig.dig_bounds (byteAt arg 1)
  have hcb : c < 256 := by omega
  have i0 : (0 : Nat) < arg.size := by omega
  have i1 : (1 : Nat) < arg.size := by omega
  have i2 : (0 : Int) < (arg.size : Int) := by omega
  have i3 : (1 : Int) < (arg.size : Int) := by omega
  have e0 := byteAt_eq arg 0 i0
  have e1 := byteAt_eq arg 1 i1
  have D0 := Lib.hid (fun W => Dig.docDigit_any (byteAt arg 0) (by omega) (by have := byteAt_lt arg 0; omega) W)
  have D1 := Lib.hid (fun W => Dig.docDigit_any (byteAt arg 1) (by omega) (by have := byteAt_lt arg 1; omega) W)
  generalize byteAt arg 0 = v0 at *
  generalize byteAt arg 1 = v1 at *
  generalize Dig.dig v0 = g0 at *
  generalize Dig.dig v1 = g1 at *
  have hw : IntKind.u8.wrap (g0 * 16 + g1) = (c : Int) := by
    have e : ∀ x : Int, IntKind.u8.wrap x = x % 256 := fun x => by simp [IntKind.wrap, IntKind.bits, IntKind.signed]
    rw [e]; omega
  have hw2 : (g0 * 16 + g1) % 256 = (c : Int) := by omega
  have hw3 : g0 * 16 + g1 = (c : Int) := by omega
  obtain ⟨Z, hZ⟩ : ∃ Z, fs s c (A + 1) k = Z := ⟨_, rfl⟩
  rw [hZ]
  have HZ := Lib.hid hZ
  clear hZ hc
  go_enter Tryd.func6, Tryd.ntmps6
  go_wp2_with fail
  obtain ⟨w1, hw1⟩ : ∃ w1, w1 = W.alloc (.cells #[.string s, .int .i64 A, .slice a1 n1 c1, .map mo, .slice a2 n2 c2] 30) := ⟨_, rfl⟩
  rw [← hw1]
  have b0 : w1.cell? ⟨W.heap.size, 0, none⟩ = some (.string s) := by rw [hw1]; simp
  have b1 : w1.cell? ⟨W.heap.size, 1, none⟩ = some (.int .i64 A) := by rw [hw1]; simp
  have b2 : w1.cell? ⟨W.heap.size, 2, none⟩ = some (.slice a1 n1 c1) := by rw [hw1]; simp
  have b3 : w1.cell? ⟨W.heap.size, 3, none⟩ = some (.map mo) := by rw [hw1]; simp
  have b4 : w1.cell? ⟨W.heap.size, 4, none⟩ = some (.slice a2 n2 c2) := by rw [hw1]; simp
  have B1 : Hid (Below W.heap.size W w1) := Lib.hid (by rw [hw1]; exact (Below.refl _ _).alloc (Nat.le_refl _) _)
  clear hw1
  go_wp2_with fail
  go_cut [17] (fun c17 wx => c17 = .int .u8 (c : Int) ∧ Hid (Below w1.heap.size w1 wx))
  case first =>
    have hm1 : IntKind.i64.wrap (g0 * 16) = g0 * 16 := by
      have e : ∀ x : Int, -9223372036854775808 ≤ x → x ≤ 9223372036854775807 → IntKind.i64.wrap x = x := fun x h1 h2 => by rw [IntKind.wrap_i64]; omega
      exact e _ (by omega) (by omega)
    have hm2 : IntKind.i64.wrap (g0 * 16 + g1) = (c : Int) := by
      have e : ∀ x : Int, -9223372036854775808 ≤ x → x ≤ 9223372036854775807 → IntKind.i64.wrap x = x := fun x h1 h2 => by rw [IntKind.wrap_i64]; omega
      rw [e _ (by omega) (by omega)]; exact hw3
    have hm3 : IntKind.u8.wrap (c : Int) = (c : Int) := by rw [← hw3]; exact hw.trans hw3.symm
    have hm4 : IntKind.i64.wrap (c : Int) = (c : Int) := by rw [IntKind.wrap_i64]; omega
    have HBq : Hid (Below w1.heap.size w1 w1.drew) := Lib.hid (Below.refl _ _).drew
    go_region_held3 (fun _ => True) (trivial)
      (first
        | (go_at_call 17; (with_reducible refine (D0.out _).mono ?_); rintro e w2 ⟨rfl, h2⟩; have HBr := Lib.hid (HBq.out.trans (h2.mono HBq.out.size)); clear h2)
        | (go_at_call 17; (with_reducible refine (D1.out _).mono ?_); rintro e w3 ⟨rfl, h3⟩; have HBs := Lib.hid (HBr.out.trans (h3.mono HBr.out.size)); clear h3))
    all_goals
      go_wp2_with fail
      go_meet
      exact ⟨by first | rfl | exact congrArg (Value.int .u8) (by rw [hm4, hm3]), HBs⟩
  case rest =>
    obtain ⟨rfl, hBc⟩ := hcut
    have r0 := keepCell hBc.out b0
    have r1 := keepCell hBc.out b1
    have BW := Lib.hid (B1.out.trans (hBc.out.mono B1.out.size))
    clear D0 D1
    go_wp2_with fail
    go_loopw [11, 18] (fun q i wr => faRd s c Z wc q i wr) (fun _ i _ => s.size + 1 - (intOf i).toNat)
    case atStart => exact ⟨A + 1, k, hk1, by omega, by omega, by go_num, rfl, Lib.hid HZ.out, rfl⟩
    case round =>
      obtain ⟨p, q, hq1, hq2, hp, rfl, rfl, hz, rfl⟩ := hrel
      by_cases hlt : p < s.size
      · have hb1 := Lib.hid (byteAt_eq s p hlt)
        have HN := Lib.hid (fun (h : byteAt s p ≠ c) => (fs_no (k := q) hlt h).symm.trans hz.out)
        have HM := Lib.hid (fun (h : byteAt s p = c) (h1 : 1 < q) => (fs_more hlt h h1).symm.trans hz.out)
        have HH := Lib.hid (fun (h : byteAt s p = c) (h1 : q ≤ 1) => (fs_hit hlt h h1).symm.trans hz.out)
        have ip0 : (0 : Int) ≤ (p : Int) := by omega
        have ip1 : (p : Int) < (s.size : Int) := by omega
        by_cases e : byteAt s p = c
        · have e1 : ((s[p].toNat : Int) == (c : Int)) = true := by rw [hb1.out, e, beq_iff_eq]
          by_cases g : q = 1
          · subst g
            have hz2 := HH.out e (Nat.le_refl _)
            subst hz2
            go_wp2_with fail
            go_ret3
            exact ⟨tup3d rfl _ _, BW.out⟩
          · have hz2 := Lib.hid (HM.out e (by omega))
            have g1 : ((q : Int) - 1 == 0) = false := by rw [beq_eq_false_iff_ne]; omega
            go_wp2_with fail
            go_roundw
            case rel => first | exact ⟨p + 1, q - 1, by omega, by omega, by omega, by go_num, congrArg (Value.int .i64) (by omega), hz2, rfl⟩ | ((repeat apply Exists.intro); exact ⟨⟨p + 1, q - 1, by omega, by omega, by omega, by go_num, congrArg (Value.int .i64) (by omega), hz2, rfl⟩, rfl⟩)
            case measure => simp [intOf]; omega
        · have e1 : ((s[p].toNat : Int) == (c : Int)) = false := by rw [hb1.out, beq_eq_false_iff_ne]; omega
          have g1 : ((q : Int) == 0) = false := by rw [beq_eq_false_iff_ne]; omega
          have hz2 := Lib.hid (HN.out e)
          go_wp2_with fail
          go_roundw
          case rel => first | exact ⟨p + 1, q, by omega, by omega, by omega, by go_num, rfl, hz2, rfl⟩ | ((repeat apply Exists.intro); exact ⟨⟨p + 1, q, by omega, by omega, by omega, by go_num, rfl, hz2, rfl⟩, rfl⟩)
          case measure => simp [intOf]; omega
      · have hz2 := hz.out
        rw [fs_end (by omega)] at hz2
        subst hz2
        go_wp2_with fail
        go_ret3
        exact ⟨tup3d rfl _ _, BW.out⟩
end Go.Proofs.YtgkmjkjcdjkffaaDoor.Mo
