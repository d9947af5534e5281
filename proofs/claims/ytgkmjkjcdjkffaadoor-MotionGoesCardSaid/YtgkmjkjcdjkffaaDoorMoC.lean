/-
  PROVED HERE: the contract of motion's part. Conditions: as each theorem states.
-/
import Derived.Test.YtgkmjkjcdjkffaaDoorMoB
import Derived.Test.YtgkmjkjcdjkffaaDoorErrB
namespace Go.Proofs.YtgkmjkjcdjkffaaDoor.Mo
open Go.RowKit
/-- No error, or one of a number. -/
def ErrX (v : Value) (n p : Int) : Prop := (v = .nilIface ∧ n = 0 ∧ p = -1) ∨ (v = .iface 35 (.int .i64 n) ∧ decide (n ≠ 0 ∧ p = -1) = true) ∨ False
theorem ErrX.is {v : Value} {n : Int} (h : ErrX v n (-1)) (w : World) : Err.ErrIs w v n (-1) := by
  rcases h with h | ⟨h, _⟩ | h
  · exact .inl h
  · exact .inr (.inl ⟨h, rfl⟩)
  · exact h.elim
theorem ErrX.form {v : Value} {n : Int} (h : ErrX v n (-1)) : (n = 0 ∧ v = .nilIface) ∨ (n ≠ 0 ∧ v = .iface 35 (.int .i64 n)) := by
  rcases h with ⟨h, h2, _⟩ | ⟨h, h2⟩ | h
  · exact .inl ⟨h2, h⟩
  · exact .inr ⟨(of_decide_eq_true h2).1, h⟩
  · exact h.elim
/-- A place, whether the byte there is a part, an error. -/
def GP (n : Int) (b : Bool) (c : Int) (W : World) (e : Ending) (w' : World) : Prop := ∃ x, e = .returned (.tuple #[.int .i64 n, .bool b, x]) ∧ ErrX x c (-1) ∧ Below W.heap.size W w'
def poC (z : Option Int) : Int := match z with | none => 8 | some _ => 0
noncomputable def poN (L : Int) (z : Option Int) : Int := match z with | none => 0 | some t => bnd L t
def PnR (on : Bool) (ps : List Int) (a : Int) (w1 : World) (t i : Value) (wr : World) : Prop := ∃ j : Nat, ∃ u : Int, j ≤ ps.length ∧ i = .int .i64 j ∧ t = .int .i64 u ∧ Hid (PX on (ps.take j) a u) ∧ wr = w1
def PaR (on : Bool) (ps : List Int) (Z : Option Int) (L : Int) (k : Nat) (w1 : World) (t i : Value) (wr : World) : Prop := ∃ q : Nat, ∃ a : Int, q ≤ k ∧ i = .int .i64 q ∧ t = .int .i64 a ∧ Hid (pt on ps (k - q) a = Z) ∧ 0 ≤ a ∧ a ≤ L ∧ wr = w1
theorem px_in {on : Bool} {ps : List Int} {a t L : Int} {k : Nat} (h0 : ∀ x ∈ ps, 0 ≤ x ∧ x ≤ L) (h : PX on (ps.take k) a t) (hL : 0 ≤ L) : -1 ≤ t ∧ t ≤ L :=
  px_bound (fun x hx => h0 x (mem_of_take hx)) h hL
set_option maxRecDepth 100000 in
set_option maxHeartbeats 4000000 in
theorem part_any (on : Bool) (s : ByteArray) (hs : s.size ≤ 1000) (A : Int) (ps : List Int) (L : Int) (hL : L = s.size) (hA : 0 ≤ A ∧ A ≤ L) (hps : ∀ x ∈ ps, 0 ≤ x ∧ x ≤ L) (hpl : ps.length ≤ 100000) (k : Nat) (hk : k ≤ 10000) (a1 : Option Addr) (n1 c1 : Nat) (mo : Option Nat) (v : Value) (W : World) (hi : Ints W v ps) :
    Calls Tryd.prog 30 #[.agg #[.string s, .int .i64 A, .slice a1 n1 c1, .map mo, v], .bool on, .int .i64 k] W (GP (poN L (pt on ps k A)) false (poC (pt on ps k A)) W) := by
  obtain ⟨ad, cap, rfl, hc⟩ := hi
  obtain ⟨hA0, hA1⟩ := hA
  subst hL
  have HB := Lib.hid (fun (n : Int) (hn : -9223372036854775808 ≤ n ∧ n ≤ 9223372036854775807) W => bound_any s hs A n hn a1 n1 c1 mo ad ps.length cap W)
  have HC := Lib.hid hc
  have HP := Lib.hid hps
  clear hc hps
  obtain ⟨Z, hZ⟩ : ∃ Z, pt on ps k A = Z := ⟨_, rfl⟩
  rw [hZ]
  have HZ := Lib.hid hZ
  clear hZ
  go_enter Tryd.func30, Tryd.ntmps30
  go_wp2_with fail
  obtain ⟨w1, hw1⟩ : ∃ w1, w1 = W.alloc (.cells #[.string s, .int .i64 A, .slice a1 n1 c1, .map mo, .slice ad ps.length cap] 33) := ⟨_, rfl⟩
  rw [← hw1]
  have b0 : w1.cell? ⟨W.heap.size, 0, none⟩ = some (.string s) := by rw [hw1]; simp
  have b1 : w1.cell? ⟨W.heap.size, 1, none⟩ = some (.int .i64 A) := by rw [hw1]; simp
  have b2 : w1.cell? ⟨W.heap.size, 2, none⟩ = some (.slice a1 n1 c1) := by rw [hw1]; simp
  have b3 : w1.cell? ⟨W.heap.size, 3, none⟩ = some (.map mo) := by rw [hw1]; simp
  have b4 : w1.cell? ⟨W.heap.size, 4, none⟩ = some (.slice ad ps.length cap) := by rw [hw1]; simp
  have B1 : Hid (Below W.heap.size W w1) := Lib.hid (by rw [hw1]; exact (Below.refl _ _).alloc (Nat.le_refl _) _)
  clear hw1
  go_wp2_with fail
  go_loopw [9, 16] (fun t i wr => PaR on ps Z s.size k w1 t i wr) (fun _ i _ => k - (intOf i).toNat)
  case atStart => exact ⟨0, A, Nat.zero_le _, rfl, rfl, Lib.hid HZ.out, hA0, hA1, rfl⟩
  case round =>
    obtain ⟨q, a, hq, rfl, rfl, hz, ha0, ha1, rfl⟩ := hrel
    by_cases hlt : q < k
    · go_wp2_with fail
      go_loopw [10, 21] (fun t i wx => PnR on ps a wr t i wx) (fun _ i _ => ps.length - (intOf i).toNat)
      case atStart => exact ⟨0, -1, Nat.zero_le _, rfl, rfl, Lib.hid (px_nil on a), rfl⟩
      case round =>
        obtain ⟨j, u, hj, rfl, rfl, hx, rfl⟩ := hrel
        by_cases hjl : j < ps.length
        · obtain ⟨ad1, rfl, hck⟩ := HC.out j hjl
          have hcc := keepCell B1.out hck
          clear hck
          have hx0 := HP.out _ (List.getElem_mem hjl)
          have hub := px_in HP.out hx.out (by omega)
          obtain ⟨hx1, hx2⟩ := hx0
          obtain ⟨hu1, hu2⟩ := hub
          have S := px_snoc (x := ps[j]) (fun y hy => (HP.out y (mem_of_take hy)).1) hx.out
          rw [← take_snoc ps j hjl] at S
          have SH := Lib.hid S
          clear S
          generalize ps[j] = x at *
          cases on with
          | true =>
            rcases (show (x ≤ a) ∨ (a < x ∧ u < 0) ∨ (a < x ∧ 0 ≤ u ∧ x < u) ∨ (a < x ∧ 0 ≤ u ∧ u ≤ x) by omega) with c1 | ⟨c1, c2⟩ | ⟨c1, c2, c3⟩ | ⟨c1, c2, c3⟩
            · have N := Lib.hid (SH.out.2 (by rw [side_t, lead_t]; omega))
              clear SH
              go_wp2_with fail
              go_roundw
              case rel => first | exact ⟨j + 1, _, by omega, by go_num, rfl, N, rfl⟩ | ((repeat apply Exists.intro); exact ⟨⟨j + 1, _, by omega, by go_num, rfl, N, rfl⟩, rfl⟩)
              case measure => simp [intOf]; omega
            · have N := Lib.hid (SH.out.1 (by rw [side_t, lead_t]; omega))
              clear SH
              go_wp2_with fail
              go_roundw
              case rel => first | exact ⟨j + 1, _, by omega, by go_num, rfl, N, rfl⟩ | ((repeat apply Exists.intro); exact ⟨⟨j + 1, _, by omega, by go_num, rfl, N, rfl⟩, rfl⟩)
              case measure => simp [intOf]; omega
            · have N := Lib.hid (SH.out.1 (by rw [side_t, lead_t]; omega))
              clear SH
              go_wp2_with fail
              go_roundw
              case rel => first | exact ⟨j + 1, _, by omega, by go_num, rfl, N, rfl⟩ | ((repeat apply Exists.intro); exact ⟨⟨j + 1, _, by omega, by go_num, rfl, N, rfl⟩, rfl⟩)
              case measure => simp [intOf]; omega
            · have N := Lib.hid (SH.out.2 (by rw [side_t, lead_t]; omega))
              clear SH
              go_wp2_with fail
              go_roundw
              case rel => first | exact ⟨j + 1, _, by omega, by go_num, rfl, N, rfl⟩ | ((repeat apply Exists.intro); exact ⟨⟨j + 1, _, by omega, by go_num, rfl, N, rfl⟩, rfl⟩)
              case measure => simp [intOf]; omega
          | false =>
            rcases (show (a ≤ x) ∨ (x < a ∧ u < x) ∨ (x < a ∧ x ≤ u) by omega) with c1 | ⟨c1, c2⟩ | ⟨c1, c2⟩
            · have N := Lib.hid (SH.out.2 (by rw [side_f, lead_f]; omega))
              clear SH
              go_wp2_with fail
              go_roundw
              case rel => first | exact ⟨j + 1, _, by omega, by go_num, rfl, N, rfl⟩ | ((repeat apply Exists.intro); exact ⟨⟨j + 1, _, by omega, by go_num, rfl, N, rfl⟩, rfl⟩)
              case measure => simp [intOf]; omega
            · have N := Lib.hid (SH.out.1 (by rw [side_f, lead_f]; omega))
              clear SH
              go_wp2_with fail
              go_roundw
              case rel => first | exact ⟨j + 1, _, by omega, by go_num, rfl, N, rfl⟩ | ((repeat apply Exists.intro); exact ⟨⟨j + 1, _, by omega, by go_num, rfl, N, rfl⟩, rfl⟩)
              case measure => simp [intOf]; omega
            · have N := Lib.hid (SH.out.2 (by rw [side_f, lead_f]; omega))
              clear SH
              go_wp2_with fail
              go_roundw
              case rel => first | exact ⟨j + 1, _, by omega, by go_num, rfl, N, rfl⟩ | ((repeat apply Exists.intro); exact ⟨⟨j + 1, _, by omega, by go_num, rfl, N, rfl⟩, rfl⟩)
              case measure => simp [intOf]; omega
        · obtain rfl : j = ps.length := by omega
          have hp := hx.out
          rw [List.take_length] at hp
          have hub := px_bound HP.out hp (by omega)
          have hn := nx_is (fun x hx => (HP.out x hx).1) hp
          have hz2 := hz.out
          rw [show k - q = (k - (q + 1)) + 1 by omega, pt, hn] at hz2
          clear hp hn
          obtain ⟨hu1, hu2⟩ := hub
          by_cases c : u < 0
          · rw [if_pos c] at hz2
            subst hz2
            go_wp2_with fail
            go_ret3
            exact ⟨_, rfl, .inr (.inl ⟨rfl, rfl⟩), B1.out⟩
          · rw [if_neg c] at hz2
            have HZ2 := Lib.hid hz2
            clear hz2
            have c' : 0 ≤ u := by omega
            go_wp2_with fail
            go_roundw
            case rel => first | exact ⟨q + 1, u, by omega, by go_num, rfl, HZ2, c', hu2, rfl⟩ | ((repeat apply Exists.intro); exact ⟨⟨q + 1, u, by omega, by go_num, rfl, HZ2, c', hu2, rfl⟩, rfl⟩)
            case measure => simp [intOf]; omega
    · obtain rfl : q = k := by omega
      have hz2 := hz.out
      rw [Nat.sub_self, pt] at hz2
      subst hz2
      have HBa := Lib.hid (HB.out a (by omega))
      go_wp2_with fail
      refine (HBa.out _).mono ?_; rintro e w2 ⟨rfl, h2⟩
      have H2 := Lib.hid (B1.out.trans (h2.mono B1.out.size))
      clear h2
      go_wp2_with fail
      go_ret3
      exact ⟨_, rfl, .inl ⟨rfl, rfl, rfl⟩, H2.out⟩
end Go.Proofs.YtgkmjkjcdjkffaaDoor.Mo
