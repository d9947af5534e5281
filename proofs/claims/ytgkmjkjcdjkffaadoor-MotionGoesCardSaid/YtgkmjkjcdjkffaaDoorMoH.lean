/-
  PROVED HERE: the contract of the document's Go at the keys that look for parts and for patterns. Conditions: as each theorem states.
-/
import Derived.Test.YtgkmjkjcdjkffaaDoorMoG
namespace Go.Proofs.YtgkmjkjcdjkffaaDoor.Mo
open Go.RowKit
theorem dx_bound {on : Bool} {ps : List Int} {L : Nat} {a t : Int} {i : Nat} (h0 : ∀ x ∈ ps, 0 ≤ x ∧ x ≤ L) (h : DX on ps L a i t) : -1 ≤ t ∧ t ≤ L := by
  rcases h with ⟨rfl, _⟩ | ⟨h1, _⟩
  · omega
  · have := h0 _ h1; omega
theorem tmod_round (x m : Int) (hm : 0 < m) (h : -m ≤ x) : -m ≤ x.tmod m ∧ x.tmod m ≤ m ∧ (x.tmod m + m).tmod m = x % m := by
  rcases Int.lt_or_le x 0 with c | c
  · rcases Int.lt_or_eq_of_le h with d | d
    · have e : x.tmod m = x := by
        have := Int.neg_tmod (a := -x) (b := m)
        rw [Int.neg_neg, Int.tmod_eq_emod_of_nonneg (by omega : 0 ≤ -x), Int.emod_eq_of_lt (by omega) (by omega), Int.neg_neg] at this
        exact this
      rw [e]
      refine ⟨by omega, by omega, ?_⟩
      rw [Int.tmod_eq_emod_of_nonneg (by omega), Int.add_emod_right]
    · subst d
      have e : (-m).tmod m = 0 := by rw [Int.neg_tmod, Int.tmod_self]; rfl
      rw [e]
      refine ⟨by omega, by omega, ?_⟩
      rw [Int.zero_add, Int.tmod_self, Int.neg_emod_self]
  · rw [Int.tmod_eq_emod_of_nonneg c]
    have h1 := Int.emod_nonneg x (show m ≠ 0 by omega)
    have h2 := Int.emod_lt_of_pos x hm
    refine ⟨by omega, by omega, ?_⟩
    rw [Int.tmod_eq_emod_of_nonneg (by omega), Int.add_emod_right, Int.emod_emod]
def DoR (on : Bool) (ps : List Int) (Z : Option Int) (L k : Nat) (w1 : World) (kv av : Value) (wr : World) : Prop := ∃ q : Nat, ∃ a : Int, q ≤ k ∧ kv = .int .i64 q ∧ av = .int .i64 a ∧ Hid (pt on ps q a = Z) ∧ 0 ≤ a ∧ a ≤ L ∧ wr = w1
def DiR (on : Bool) (ps : List Int) (L : Nat) (a : Int) (w1 : World) (tv iv : Value) (wr : World) : Prop := ∃ i : Nat, ∃ u : Int, i ≤ L + 1 ∧ iv = .int .i64 i ∧ tv = .int .i64 u ∧ Hid (DX on ps L a i u) ∧ wr = w1
def DnR (on : Bool) (l : List Int) (Z : Int) (L k : Nat) (w1 : World) (kv av : Value) (wr : World) : Prop := ∃ q : Nat, ∃ a : Int, q ≤ k ∧ kv = .int .i64 q ∧ av = .int .i64 a ∧ Hid (ni on l q a = Z) ∧ 0 ≤ a ∧ a ≤ L ∧ wr = w1
def DsR (on : Bool) (l : List Int) (L : Nat) (a : Int) (w1 : World) (tv dv : Value) (wr : World) : Prop := ∃ d : Nat, ∃ u : Int, dv = .int .i64 d ∧ tv = .int .i64 u ∧ d ≤ L + 2 ∧ ((u = -1 ∧ 1 ≤ d ∧ Hid (None on l L a d)) ∨ (0 ≤ u ∧ u ≤ L ∧ Hid (nt on l a = u))) ∧ wr = w1
set_option maxRecDepth 100000 in
set_option maxHeartbeats 4000000 in
theorem dgo_part_true (s : ByteArray) (hs : s.size ≤ 1000) (A : Nat) (hA : A ≤ s.size) (n : Nat) (hn : n ≤ 9999) (arg : ByteArray) (ps : List Int) (hps : ∀ x ∈ ps, 0 ≤ x ∧ x ≤ s.size) (hpl : ps.length ≤ 100000) (a1 : Option Addr) (n1 c1 : Nat) (mo : Option Nat) (v : Value) (W : World) (hi : Ints W v ps) :
    Calls Tryd.prog 6 #[.agg #[.string s, .int .i64 (A : Int), .slice a1 n1 c1, .map mo, v], .int .u8 93, .int .i64 n, .string arg] W (GD (poN s.size (pt true ps (max n 1) A)) false (poC (pt true ps (max n 1) A)) W) := by
  have hi2 := hi
  obtain ⟨ad, cap, rfl, hc⟩ := hi
  clear hc
  have HB := Lib.hid (fun (m : Int) (hm : -9223372036854775808 ≤ m ∧ m ≤ 9223372036854775807) W => docBound_any s hs A m hm a1 n1 c1 mo ad ps.length cap W)
  have HP := Lib.hid hps
  clear hps
  obtain ⟨k, hk⟩ : ∃ k, max n 1 = k := ⟨_, rfl⟩
  have hmx : max (n : Int) 1 = (k : Int) := by omega
  have hk1 : 1 ≤ k ∧ k ≤ 9999 := by omega
  obtain ⟨hk1, hk2⟩ := hk1
  have d16 : ((A : Nat) : Int).tdiv 16 = (A : Int) / 16 := Int.tdiv_eq_ediv_of_nonneg (by omega)
  rw [hk]
  clear hk
  obtain ⟨Z, hZ⟩ : ∃ Z, pt true ps k A = Z := ⟨_, rfl⟩
  rw [hZ]
  have HZ := Lib.hid hZ
  clear hZ
  go_enter Tryd.func6, Tryd.ntmps6
  go_wp2_with fail
  obtain ⟨w1, hw1⟩ : ∃ w1, w1 = W.alloc (.cells #[.string s, .int .i64 A, .slice a1 n1 c1, .map mo, .slice ad ps.length cap] 30) := ⟨_, rfl⟩
  rw [← hw1]
  have b0 : w1.cell? ⟨W.heap.size, 0, none⟩ = some (.string s) := by rw [hw1]; simp
  have b1 : w1.cell? ⟨W.heap.size, 1, none⟩ = some (.int .i64 A) := by rw [hw1]; simp
  have b2 : w1.cell? ⟨W.heap.size, 2, none⟩ = some (.slice a1 n1 c1) := by rw [hw1]; simp
  have b3 : w1.cell? ⟨W.heap.size, 3, none⟩ = some (.map mo) := by rw [hw1]; simp
  have b4 : w1.cell? ⟨W.heap.size, 4, none⟩ = some (.slice ad ps.length cap) := by rw [hw1]; simp
  have B1 : Hid (Below W.heap.size W w1) := Lib.hid (by rw [hw1]; exact (Below.refl _ _).alloc (Nat.le_refl _) _)
  clear hw1
  have IN := Lib.hid (fun (m : Int) => docIn_any (.slice ad ps.length cap) ps m hpl w1 (hi2.below B1.out))
  clear hi2
  go_wp2_with fail
  go_loopw [11, 19] (fun kv av wr => DoR true ps Z s.size k w1 kv av wr) (fun kv _ _ => (intOf kv).toNat)
  case atStart => exact ⟨k, A, Nat.le_refl _, rfl, rfl, Lib.hid HZ.out, by omega, by omega, rfl⟩
  case round =>
    obtain ⟨q, a, hq, rfl, rfl, hz, ha0, ha1, rfl⟩ := hrel
    by_cases hlt : 0 < q
    · have hlt' : (0 : Int) < (q : Int) := by omega
      go_wp2_with fail
      go_loopw [20, 21] (fun tv iv wx => DiR true ps s.size a wr tv iv wx) (fun _ iv _ => s.size + 1 - (intOf iv).toNat)
      case atStart => exact ⟨0, -1, Nat.zero_le _, rfl, rfl, Lib.hid (dx_zero HP.out), rfl⟩
      case round =>
        obtain ⟨i, u, hi, rfl, rfl, hx, rfl⟩ := hrel
        by_cases hil : i ≤ s.size
        · have hil' : (i : Int) ≤ (s.size : Int) := by omega
          obtain ⟨j, hj⟩ : ∃ j : Int, jx true s.size i = j := ⟨_, rfl⟩
          have hje : (s.size : Int) - (i : Int) = j := by rw [← hj]; simp [jx]
          have hjb : 0 ≤ j ∧ j ≤ s.size := by omega
          obtain ⟨hj0, hj1⟩ := hjb
          have INj := IN.out j
          have YES := Lib.hid (fun h1 h2 => dx_yes hx.out (i := i) (by rw [hj]; exact h1) (by rw [hj]; exact h2))
          have NOT := Lib.hid (fun h1 => dx_no hx.out (i := i) h1)
          rw [hj] at YES NOT
          by_cases hm : j ∈ ps
          · rw [decide_eq_true hm] at INj
            have INH := Lib.hid INj
            clear INj
            by_cases c : a < j
            · have N := Lib.hid (YES.out hm (by rw [side_t]; exact c))
              clear YES NOT hm
              go_wp2_with fail
              refine INH.out.mono ?_; rintro e w' ⟨rfl, rfl⟩
              go_wp2_with fail
              go_roundw
              case rel => first | exact ⟨i + 1, j, by omega, by go_num, rfl, N, rfl⟩ | ((repeat apply Exists.intro); exact ⟨⟨i + 1, j, by omega, by go_num, rfl, N, rfl⟩, rfl⟩)
              case measure => simp [intOf]; omega
            · have N := Lib.hid (NOT.out (fun h => c (by have := h.2; rw [side_t] at this; exact this)))
              have c' : j ≤ a := by omega
              clear YES NOT hm c
              go_wp2_with fail
              refine INH.out.mono ?_; rintro e w' ⟨rfl, rfl⟩
              go_wp2_with fail
              go_roundw
              case rel => first | exact ⟨i + 1, u, by omega, by go_num, rfl, N, rfl⟩ | ((repeat apply Exists.intro); exact ⟨⟨i + 1, u, by omega, by go_num, rfl, N, rfl⟩, rfl⟩)
              case measure => simp [intOf]; omega
          · rw [decide_eq_false hm] at INj
            have INH := Lib.hid INj
            clear INj
            have N := Lib.hid (NOT.out (fun h => hm h.1))
            clear YES NOT hm
            go_wp2_with fail
            refine INH.out.mono ?_; rintro e w' ⟨rfl, rfl⟩
            go_wp2_with fail
            go_roundw
            case rel => first | exact ⟨i + 1, u, by omega, by go_num, rfl, N, rfl⟩ | ((repeat apply Exists.intro); exact ⟨⟨i + 1, u, by omega, by go_num, rfl, N, rfl⟩, rfl⟩)
            case measure => simp [intOf]; omega
        · obtain rfl : i = s.size + 1 := by omega
          have hn := dx_end HP.out hx.out
          have hub := dx_bound HP.out hx.out
          obtain ⟨hu1, hu2⟩ := hub
          have hz2 := hz.out
          rw [show q = (q - 1) + 1 by omega, pt, hn] at hz2
          clear hn
          by_cases c : u < 0
          · rw [if_pos c] at hz2
            subst hz2
            go_wp2_with fail
            go_ret3
            exact ⟨tup3d rfl _ _, B1.out⟩
          · rw [if_neg c] at hz2
            have HZ2 := Lib.hid hz2
            clear hz2
            have c' : 0 ≤ u := by omega
            go_wp2_with fail
            go_roundw
            case rel => first | exact ⟨q - 1, u, by omega, congrArg (Value.int .i64) (by omega), rfl, HZ2, c', hu2, rfl⟩ | ((repeat apply Exists.intro); exact ⟨⟨q - 1, u, by omega, congrArg (Value.int .i64) (by omega), rfl, HZ2, c', hu2, rfl⟩, rfl⟩)
            case measure => simp [intOf]; omega
    · obtain rfl : q = 0 := by omega
      have hz2 := hz.out
      rw [pt] at hz2
      subst hz2
      clear hlt
      have HBa := Lib.hid (HB.out a (by omega))
      go_wp2_with fail
      refine (HBa.out _).mono ?_; rintro e w2 ⟨rfl, h2⟩
      have H2 := Lib.hid (B1.out.trans (h2.mono B1.out.size))
      clear h2
      go_wp2_with fail
      go_ret3
      exact ⟨tup3d rfl _ _, H2.out⟩
set_option maxRecDepth 100000 in
set_option maxHeartbeats 4000000 in
theorem dgo_part_false (s : ByteArray) (hs : s.size ≤ 1000) (A : Nat) (hA : A ≤ s.size) (n : Nat) (hn : n ≤ 9999) (arg : ByteArray) (ps : List Int) (hps : ∀ x ∈ ps, 0 ≤ x ∧ x ≤ s.size) (hpl : ps.length ≤ 100000) (a1 : Option Addr) (n1 c1 : Nat) (mo : Option Nat) (v : Value) (W : World) (hi : Ints W v ps) :
    Calls Tryd.prog 6 #[.agg #[.string s, .int .i64 (A : Int), .slice a1 n1 c1, .map mo, v], .int .u8 91, .int .i64 n, .string arg] W (GD (poN s.size (pt false ps (max n 1) A)) false (poC (pt false ps (max n 1) A)) W) := by
  have hi2 := hi
  obtain ⟨ad, cap, rfl, hc⟩ := hi
  clear hc
  have HB := Lib.hid (fun (m : Int) (hm : -9223372036854775808 ≤ m ∧ m ≤ 9223372036854775807) W => docBound_any s hs A m hm a1 n1 c1 mo ad ps.length cap W)
  have HP := Lib.hid hps
  clear hps
  obtain ⟨k, hk⟩ : ∃ k, max n 1 = k := ⟨_, rfl⟩
  have hmx : max (n : Int) 1 = (k : Int) := by omega
  have hk1 : 1 ≤ k ∧ k ≤ 9999 := by omega
  obtain ⟨hk1, hk2⟩ := hk1
  have d16 : ((A : Nat) : Int).tdiv 16 = (A : Int) / 16 := Int.tdiv_eq_ediv_of_nonneg (by omega)
  rw [hk]
  clear hk
  obtain ⟨Z, hZ⟩ : ∃ Z, pt false ps k A = Z := ⟨_, rfl⟩
  rw [hZ]
  have HZ := Lib.hid hZ
  clear hZ
  go_enter Tryd.func6, Tryd.ntmps6
  go_wp2_with fail
  obtain ⟨w1, hw1⟩ : ∃ w1, w1 = W.alloc (.cells #[.string s, .int .i64 A, .slice a1 n1 c1, .map mo, .slice ad ps.length cap] 30) := ⟨_, rfl⟩
  rw [← hw1]
  have b0 : w1.cell? ⟨W.heap.size, 0, none⟩ = some (.string s) := by rw [hw1]; simp
  have b1 : w1.cell? ⟨W.heap.size, 1, none⟩ = some (.int .i64 A) := by rw [hw1]; simp
  have b2 : w1.cell? ⟨W.heap.size, 2, none⟩ = some (.slice a1 n1 c1) := by rw [hw1]; simp
  have b3 : w1.cell? ⟨W.heap.size, 3, none⟩ = some (.map mo) := by rw [hw1]; simp
  have b4 : w1.cell? ⟨W.heap.size, 4, none⟩ = some (.slice ad ps.length cap) := by rw [hw1]; simp
  have B1 : Hid (Below W.heap.size W w1) := Lib.hid (by rw [hw1]; exact (Below.refl _ _).alloc (Nat.le_refl _) _)
  clear hw1
  have IN := Lib.hid (fun (m : Int) => docIn_any (.slice ad ps.length cap) ps m hpl w1 (hi2.below B1.out))
  clear hi2
  go_wp2_with fail
  go_loopw [11, 19] (fun kv av wr => DoR false ps Z s.size k w1 kv av wr) (fun kv _ _ => (intOf kv).toNat)
  case atStart => exact ⟨k, A, Nat.le_refl _, rfl, rfl, Lib.hid HZ.out, by omega, by omega, rfl⟩
  case round =>
    obtain ⟨q, a, hq, rfl, rfl, hz, ha0, ha1, rfl⟩ := hrel
    by_cases hlt : 0 < q
    · have hlt' : (0 : Int) < (q : Int) := by omega
      go_wp2_with fail
      go_loopw [20, 21] (fun tv iv wx => DiR false ps s.size a wr tv iv wx) (fun _ iv _ => s.size + 1 - (intOf iv).toNat)
      case atStart => exact ⟨0, -1, Nat.zero_le _, rfl, rfl, Lib.hid (dx_zero HP.out), rfl⟩
      case round =>
        obtain ⟨i, u, hi, rfl, rfl, hx, rfl⟩ := hrel
        by_cases hil : i ≤ s.size
        · have hil' : (i : Int) ≤ (s.size : Int) := by omega
          obtain ⟨j, hj⟩ : ∃ j : Int, jx false s.size i = j := ⟨_, rfl⟩
          have hje : (i : Int) = j := by rw [← hj]; simp [jx]
          have hjb : 0 ≤ j ∧ j ≤ s.size := by omega
          obtain ⟨hj0, hj1⟩ := hjb
          have INj := IN.out j
          have YES := Lib.hid (fun h1 h2 => dx_yes hx.out (i := i) (by rw [hj]; exact h1) (by rw [hj]; exact h2))
          have NOT := Lib.hid (fun h1 => dx_no hx.out (i := i) h1)
          rw [hj] at YES NOT
          subst hje
          by_cases hm : (i : Int) ∈ ps
          · rw [decide_eq_true hm] at INj
            have INH := Lib.hid INj
            clear INj
            by_cases c : (i : Int) < a
            · have N := Lib.hid (YES.out hm (by rw [side_f]; exact c))
              clear YES NOT hm
              go_wp2_with fail
              refine INH.out.mono ?_; rintro e w' ⟨rfl, rfl⟩
              go_wp2_with fail
              go_roundw
              case rel => first | exact ⟨i + 1, (i : Int), by omega, by go_num, rfl, N, rfl⟩ | ((repeat apply Exists.intro); exact ⟨⟨i + 1, (i : Int), by omega, by go_num, rfl, N, rfl⟩, rfl⟩)
              case measure => simp [intOf]; omega
            · have N := Lib.hid (NOT.out (fun h => c (by have := h.2; rw [side_f] at this; exact this)))
              have c' : a ≤ (i : Int) := by omega
              clear YES NOT hm c
              go_wp2_with fail
              refine INH.out.mono ?_; rintro e w' ⟨rfl, rfl⟩
              go_wp2_with fail
              go_roundw
              case rel => first | exact ⟨i + 1, u, by omega, by go_num, rfl, N, rfl⟩ | ((repeat apply Exists.intro); exact ⟨⟨i + 1, u, by omega, by go_num, rfl, N, rfl⟩, rfl⟩)
              case measure => simp [intOf]; omega
          · rw [decide_eq_false hm] at INj
            have INH := Lib.hid INj
            clear INj
            have N := Lib.hid (NOT.out (fun h => hm h.1))
            clear YES NOT hm
            go_wp2_with fail
            refine INH.out.mono ?_; rintro e w' ⟨rfl, rfl⟩
            go_wp2_with fail
            go_roundw
            case rel => first | exact ⟨i + 1, u, by omega, by go_num, rfl, N, rfl⟩ | ((repeat apply Exists.intro); exact ⟨⟨i + 1, u, by omega, by go_num, rfl, N, rfl⟩, rfl⟩)
            case measure => simp [intOf]; omega
        · obtain rfl : i = s.size + 1 := by omega
          have hn := dx_end HP.out hx.out
          have hub := dx_bound HP.out hx.out
          obtain ⟨hu1, hu2⟩ := hub
          have hz2 := hz.out
          rw [show q = (q - 1) + 1 by omega, pt, hn] at hz2
          clear hn
          by_cases c : u < 0
          · rw [if_pos c] at hz2
            subst hz2
            go_wp2_with fail
            go_ret3
            exact ⟨tup3d rfl _ _, B1.out⟩
          · rw [if_neg c] at hz2
            have HZ2 := Lib.hid hz2
            clear hz2
            have c' : 0 ≤ u := by omega
            go_wp2_with fail
            go_roundw
            case rel => first | exact ⟨q - 1, u, by omega, congrArg (Value.int .i64) (by omega), rfl, HZ2, c', hu2, rfl⟩ | ((repeat apply Exists.intro); exact ⟨⟨q - 1, u, by omega, congrArg (Value.int .i64) (by omega), rfl, HZ2, c', hu2, rfl⟩, rfl⟩)
            case measure => simp [intOf]; omega
    · obtain rfl : q = 0 := by omega
      have hz2 := hz.out
      rw [pt] at hz2
      subst hz2
      clear hlt
      have HBa := Lib.hid (HB.out a (by omega))
      go_wp2_with fail
      refine (HBa.out _).mono ?_; rintro e w2 ⟨rfl, h2⟩
      have H2 := Lib.hid (B1.out.trans (h2.mono B1.out.size))
      clear h2
      go_wp2_with fail
      go_ret3
      exact ⟨tup3d rfl _ _, H2.out⟩
set_option maxRecDepth 100000 in
set_option maxHeartbeats 4000000 in
theorem dgo_n_true (s : ByteArray) (hs : s.size ≤ 1000) (A : Nat) (hA : A ≤ s.size) (n : Nat) (hn : n ≤ 9999) (arg : ByteArray) (ms : List Int) (hml : ms.length ≤ 1000000) (hmb : ∀ x ∈ ms, -9223372036854775808 ≤ x ∧ x ≤ 9223372036854775807) (v : Value) (mo : Option Nat) (a2 : Option Addr) (n2 c2 : Nat) (W : World) (hi : Ints W v ms) :
    Calls Tryd.prog 6 #[.agg #[.string s, .int .i64 (A : Int), v, .map mo, .slice a2 n2 c2], .int .u8 110, .int .i64 n, .string arg] W (GD (nxN true (Fd.ll s ms) (max n 1) A) false (nxC (Fd.ll s ms)) W) := by
  have hi2 := hi
  obtain ⟨ad, cap, rfl, hc⟩ := hi
  have C1 := fun (W' : World) (hB : Below W.heap.size W W') => Fd.docLike_any s (.slice ad ms.length cap) ms hml hs W' (hi2.below hB) hmb
  have hr := Lib.hid (ll_ris s ms)
  have hin := Lib.hid (ll_in s ms)
  have hle := Lib.hid (ll_err s ms)
  have hll := Fd.ll_len s ms
  have hlc : Fd.lc ms = 0 ∨ Fd.lc ms = 1 := by unfold Fd.lc; split <;> simp
  clear hc hi2 hmb
  generalize Fd.ll s ms = l at *
  generalize Fd.lc ms = cc at *
  have C2 := Lib.hid C1
  clear C1
  obtain ⟨k, hk⟩ : ∃ k, max n 1 = k := ⟨_, rfl⟩
  have hmx : max (n : Int) 1 = (k : Int) := by omega
  have hk1 : 1 ≤ k ∧ k ≤ 9999 := by omega
  obtain ⟨hk1, hk2⟩ := hk1
  have d16 : ((A : Nat) : Int).tdiv 16 = (A : Int) / 16 := Int.tdiv_eq_ediv_of_nonneg (by omega)
  rw [hk]
  clear hk
  go_enter Tryd.func6, Tryd.ntmps6
  go_wp2_with fail
  obtain ⟨w1, hw1⟩ : ∃ w1, w1 = W.alloc (.cells #[.string s, .int .i64 A, .slice ad ms.length cap, .map mo, .slice a2 n2 c2] 30) := ⟨_, rfl⟩
  rw [← hw1]
  have b0 : w1.cell? ⟨W.heap.size, 0, none⟩ = some (.string s) := by rw [hw1]; simp
  have b1 : w1.cell? ⟨W.heap.size, 1, none⟩ = some (.int .i64 A) := by rw [hw1]; simp
  have b2 : w1.cell? ⟨W.heap.size, 2, none⟩ = some (.slice ad ms.length cap) := by rw [hw1]; simp
  have b3 : w1.cell? ⟨W.heap.size, 3, none⟩ = some (.map mo) := by rw [hw1]; simp
  have b4 : w1.cell? ⟨W.heap.size, 4, none⟩ = some (.slice a2 n2 c2) := by rw [hw1]; simp
  have B1 : Hid (Below W.heap.size W w1) := Lib.hid (by rw [hw1]; exact (Below.refl _ _).alloc (Nat.le_refl _) _)
  clear hw1
  have C3 := Lib.hid (C2.out w1 B1.out)
  clear C2
  go_wp2_with fail
  refine C3.out.mono ?_; rintro e w2 ⟨v, rfl, hi0, h0⟩
  have r0 := keepCell h0 b0
  have r1 := keepCell h0 b1
  have BW := Lib.hid (B1.out.trans (h0.mono B1.out.size))
  clear h0 b0 b1 b2 b3 b4 C3
  have HI := Lib.hid hi0
  by_cases hl0 : l = []
  · subst hl0
    obtain ⟨ad1, cap1, rfl⟩ := ins_nil hi0
    clear HI
    have E1 : nxN true [] k (A : Int) = 0 := rfl
    have E2 : nxC [] = 8 := rfl
    rcases hlc with rfl | rfl
    all_goals
      go_wp2_with fail
      go_ret3
      exact ⟨rfl, BW.out⟩
  · have hlp : 0 < l.length := List.length_pos_iff.2 hl0
    have l0 : ((l.length : Int) == 0) = false := by rw [beq_eq_false_iff_ne]; omega
    obtain rfl : cc = 0 := Classical.byContradiction fun h => hl0 (hle.out h)
    obtain ⟨ad1, cap1, rfl, hc1⟩ := hi0
    clear hc1
    have IN := Lib.hid (fun (m : Int) => docIn_any (.slice ad1 l.length cap1) l m (by omega) w2 HI.out)
    obtain ⟨cnt, hcnt⟩ : ∃ cnt, (k - 1) % l.length + 1 = cnt := ⟨_, rfl⟩
    have hcb : cnt ≤ l.length := by rw [← hcnt]; exact Nat.mod_lt _ hlp
    have hcI : ((k : Int) - 1) % (l.length : Int) + 1 = (cnt : Int) := by
      rw [← hcnt, show (k : Int) - 1 = ((k - 1 : Nat) : Int) by omega, Int.natCast_add, Int.natCast_emod]; rfl
    have hct : ((k : Int) - 1).tmod (l.length : Int) = (cnt : Int) - 1 := by
      rw [Int.tmod_eq_emod_of_nonneg (by omega)]; omega
    have hce : ((k : Int) - 1) % (l.length : Int) = (cnt : Int) - 1 := by omega
    obtain ⟨Z, hZ⟩ : ∃ Z, ni true l cnt A = Z := ⟨_, rfl⟩
    have hN : Hid (nxN true l k A = Z) := Lib.hid (by unfold nxN; rw [if_neg hl0, hcnt, hZ])
    have hC : Hid (nxC l = 0) := Lib.hid (by unfold nxC; rw [if_neg hl0])
    have HZ := Lib.hid hZ
    clear hZ hcnt hl0 hle HI
    go_wp2_with fail
    go_loopw [11, 25] (fun kv av wr => DnR true l Z s.size cnt w2 kv av wr) (fun kv _ _ => (intOf kv).toNat)
    case atStart => exact ⟨cnt, A, Nat.le_refl _, congrArg (Value.int .i64) (by omega), rfl, Lib.hid HZ.out, by omega, by omega, rfl⟩
    case round =>
      obtain ⟨q, a, hq, rfl, rfl, hz, ha0, ha1, rfl⟩ := hrel
      by_cases hlt : 0 < q
      · have hlt' : (0 : Int) < (q : Int) := by omega
        have hz2 := hz.out
        rw [show q = (q - 1) + 1 by omega, ni] at hz2
        have HZ2 := Lib.hid hz2
        clear hz2
        go_wp2_with fail
        go_loopw [26, 27] (fun tv dv wx => DsR true l s.size a wr tv dv wx) (fun _ dv _ => s.size + 2 - (intOf dv).toNat)
        case atStart => exact ⟨1, -1, rfl, rfl, by omega, .inl ⟨rfl, Nat.le_refl _, Lib.hid (none_one _ _ _ _)⟩, rfl⟩
        case round =>
          obtain ⟨d, u, rfl, rfl, hd2, hu, rfl⟩ := hrel
          rcases hu with ⟨rfl, hd1, hnn⟩ | ⟨hu0, hu1, hnt⟩
          · have hdL := none_end hin.out ⟨ha0, ha1⟩ hlp hnn.out
            obtain ⟨j, hj⟩ : ∃ j, jj true s.size a d = j := ⟨_, rfl⟩
            have hjm := jj_mod true s.size a d ⟨ha0, ha1⟩ ⟨hd1, hdL⟩
            simp only [if_true] at hjm
            rw [hj] at hjm
            obtain ⟨t1, t2, t3⟩ := tmod_round (a + (d : Int)) ((s.size : Int) + 1) (by omega) (by omega)
            rw [hjm] at t3
            have s0 : ((s.size : Int) + 1 == 0) = false := by rw [beq_eq_false_iff_ne]; omega
            have INj := IN.out j
            have YES := Lib.hid (fun h1 => nt_is (jj_hit hin.out ⟨ha0, ha1⟩ ⟨hd1, hdL⟩ hnn.out (by rw [hj]; exact h1)))
            have NOT := Lib.hid (fun h1 => none_next hnn.out (by rw [hj]; exact h1))
            rw [hj] at YES
            obtain ⟨tm, htm⟩ : ∃ tm, (a + (d : Int)).tmod ((s.size : Int) + 1) = tm := ⟨_, rfl⟩
            rw [htm] at t1 t2 t3
            clear hjm hj
            by_cases hm : j ∈ l
            · have hjb := hin.out j hm
              obtain ⟨hj0, hj1⟩ := hjb
              have N := Lib.hid (YES.out hm)
              rw [decide_eq_true hm] at INj
              have INH := Lib.hid INj
              clear YES NOT hm INj
              go_wp2_with fail
              refine INH.out.mono ?_; rintro e w' ⟨rfl, rfl⟩
              go_wp2_with fail
              go_roundw
              case rel => first | exact ⟨d + 1, j, by go_num, rfl, by omega, .inr ⟨hj0, hj1, N⟩, rfl⟩ | ((repeat apply Exists.intro); exact ⟨⟨d + 1, j, by go_num, rfl, by omega, .inr ⟨hj0, hj1, N⟩, rfl⟩, rfl⟩)
              case measure => simp [intOf]; omega
            · have N := Lib.hid (NOT.out hm)
              rw [decide_eq_false hm] at INj
              have INH := Lib.hid INj
              have hdL2 := none_end hin.out ⟨ha0, ha1⟩ hlp N.out
              clear YES NOT hm INj
              go_wp2_with fail
              refine INH.out.mono ?_; rintro e w' ⟨rfl, rfl⟩
              go_wp2_with fail
              go_roundw
              case rel => first | exact ⟨d + 1, -1, by go_num, rfl, by omega, .inl ⟨rfl, by omega, N⟩, rfl⟩ | ((repeat apply Exists.intro); exact ⟨⟨d + 1, -1, by go_num, rfl, by omega, .inl ⟨rfl, by omega, N⟩, rfl⟩, rfl⟩)
              case measure => simp [intOf]; omega
          · have HZ3 := HZ2.out
            rw [hnt.out] at HZ3
            have HZ4 := Lib.hid HZ3
            clear HZ3
            go_wp2_with fail
            go_roundw
            case rel => first | exact ⟨q - 1, u, by omega, congrArg (Value.int .i64) (by omega), rfl, HZ4, hu0, hu1, rfl⟩ | ((repeat apply Exists.intro); exact ⟨⟨q - 1, u, by omega, congrArg (Value.int .i64) (by omega), rfl, HZ4, hu0, hu1, rfl⟩, rfl⟩)
            case measure => simp [intOf]; omega
      · obtain rfl : q = 0 := by omega
        have hz2 := hz.out
        rw [ni] at hz2
        subst hz2
        clear hlt
        go_wp2_with fail
        go_ret3
        exact ⟨by rw [hN.out, hC.out]; rfl, BW.out⟩
set_option maxRecDepth 100000 in
set_option maxHeartbeats 4000000 in
theorem dgo_n_false (s : ByteArray) (hs : s.size ≤ 1000) (A : Nat) (hA : A ≤ s.size) (n : Nat) (hn : n ≤ 9999) (arg : ByteArray) (ms : List Int) (hml : ms.length ≤ 1000000) (hmb : ∀ x ∈ ms, -9223372036854775808 ≤ x ∧ x ≤ 9223372036854775807) (v : Value) (mo : Option Nat) (a2 : Option Addr) (n2 c2 : Nat) (W : World) (hi : Ints W v ms) :
    Calls Tryd.prog 6 #[.agg #[.string s, .int .i64 (A : Int), v, .map mo, .slice a2 n2 c2], .int .u8 78, .int .i64 n, .string arg] W (GD (nxN false (Fd.ll s ms) (max n 1) A) false (nxC (Fd.ll s ms)) W) := by
  have hi2 := hi
  obtain ⟨ad, cap, rfl, hc⟩ := hi
  have C1 := fun (W' : World) (hB : Below W.heap.size W W') => Fd.docLike_any s (.slice ad ms.length cap) ms hml hs W' (hi2.below hB) hmb
  have hr := Lib.hid (ll_ris s ms)
  have hin := Lib.hid (ll_in s ms)
  have hle := Lib.hid (ll_err s ms)
  have hll := Fd.ll_len s ms
  have hlc : Fd.lc ms = 0 ∨ Fd.lc ms = 1 := by unfold Fd.lc; split <;> simp
  clear hc hi2 hmb
  generalize Fd.ll s ms = l at *
  generalize Fd.lc ms = cc at *
  have C2 := Lib.hid C1
  clear C1
  obtain ⟨k, hk⟩ : ∃ k, max n 1 = k := ⟨_, rfl⟩
  have hmx : max (n : Int) 1 = (k : Int) := by omega
  have hk1 : 1 ≤ k ∧ k ≤ 9999 := by omega
  obtain ⟨hk1, hk2⟩ := hk1
  have d16 : ((A : Nat) : Int).tdiv 16 = (A : Int) / 16 := Int.tdiv_eq_ediv_of_nonneg (by omega)
  rw [hk]
  clear hk
  go_enter Tryd.func6, Tryd.ntmps6
  go_wp2_with fail
  obtain ⟨w1, hw1⟩ : ∃ w1, w1 = W.alloc (.cells #[.string s, .int .i64 A, .slice ad ms.length cap, .map mo, .slice a2 n2 c2] 30) := ⟨_, rfl⟩
  rw [← hw1]
  have b0 : w1.cell? ⟨W.heap.size, 0, none⟩ = some (.string s) := by rw [hw1]; simp
  have b1 : w1.cell? ⟨W.heap.size, 1, none⟩ = some (.int .i64 A) := by rw [hw1]; simp
  have b2 : w1.cell? ⟨W.heap.size, 2, none⟩ = some (.slice ad ms.length cap) := by rw [hw1]; simp
  have b3 : w1.cell? ⟨W.heap.size, 3, none⟩ = some (.map mo) := by rw [hw1]; simp
  have b4 : w1.cell? ⟨W.heap.size, 4, none⟩ = some (.slice a2 n2 c2) := by rw [hw1]; simp
  have B1 : Hid (Below W.heap.size W w1) := Lib.hid (by rw [hw1]; exact (Below.refl _ _).alloc (Nat.le_refl _) _)
  clear hw1
  have C3 := Lib.hid (C2.out w1 B1.out)
  clear C2
  go_wp2_with fail
  refine C3.out.mono ?_; rintro e w2 ⟨v, rfl, hi0, h0⟩
  have r0 := keepCell h0 b0
  have r1 := keepCell h0 b1
  have BW := Lib.hid (B1.out.trans (h0.mono B1.out.size))
  clear h0 b0 b1 b2 b3 b4 C3
  have HI := Lib.hid hi0
  by_cases hl0 : l = []
  · subst hl0
    obtain ⟨ad1, cap1, rfl⟩ := ins_nil hi0
    clear HI
    have E1 : nxN false [] k (A : Int) = 0 := rfl
    have E2 : nxC [] = 8 := rfl
    rcases hlc with rfl | rfl
    all_goals
      go_wp2_with fail
      go_ret3
      exact ⟨rfl, BW.out⟩
  · have hlp : 0 < l.length := List.length_pos_iff.2 hl0
    have l0 : ((l.length : Int) == 0) = false := by rw [beq_eq_false_iff_ne]; omega
    obtain rfl : cc = 0 := Classical.byContradiction fun h => hl0 (hle.out h)
    obtain ⟨ad1, cap1, rfl, hc1⟩ := hi0
    clear hc1
    have IN := Lib.hid (fun (m : Int) => docIn_any (.slice ad1 l.length cap1) l m (by omega) w2 HI.out)
    obtain ⟨cnt, hcnt⟩ : ∃ cnt, (k - 1) % l.length + 1 = cnt := ⟨_, rfl⟩
    have hcb : cnt ≤ l.length := by rw [← hcnt]; exact Nat.mod_lt _ hlp
    have hcI : ((k : Int) - 1) % (l.length : Int) + 1 = (cnt : Int) := by
      rw [← hcnt, show (k : Int) - 1 = ((k - 1 : Nat) : Int) by omega, Int.natCast_add, Int.natCast_emod]; rfl
    have hct : ((k : Int) - 1).tmod (l.length : Int) = (cnt : Int) - 1 := by
      rw [Int.tmod_eq_emod_of_nonneg (by omega)]; omega
    have hce : ((k : Int) - 1) % (l.length : Int) = (cnt : Int) - 1 := by omega
    obtain ⟨Z, hZ⟩ : ∃ Z, ni false l cnt A = Z := ⟨_, rfl⟩
    have hN : Hid (nxN false l k A = Z) := Lib.hid (by unfold nxN; rw [if_neg hl0, hcnt, hZ])
    have hC : Hid (nxC l = 0) := Lib.hid (by unfold nxC; rw [if_neg hl0])
    have HZ := Lib.hid hZ
    clear hZ hcnt hl0 hle HI
    go_wp2_with fail
    go_loopw [11, 25] (fun kv av wr => DnR false l Z s.size cnt w2 kv av wr) (fun kv _ _ => (intOf kv).toNat)
    case atStart => exact ⟨cnt, A, Nat.le_refl _, congrArg (Value.int .i64) (by omega), rfl, Lib.hid HZ.out, by omega, by omega, rfl⟩
    case round =>
      obtain ⟨q, a, hq, rfl, rfl, hz, ha0, ha1, rfl⟩ := hrel
      by_cases hlt : 0 < q
      · have hlt' : (0 : Int) < (q : Int) := by omega
        have hz2 := hz.out
        rw [show q = (q - 1) + 1 by omega, ni] at hz2
        have HZ2 := Lib.hid hz2
        clear hz2
        go_wp2_with fail
        go_loopw [26, 27] (fun tv dv wx => DsR false l s.size a wr tv dv wx) (fun _ dv _ => s.size + 2 - (intOf dv).toNat)
        case atStart => exact ⟨1, -1, rfl, rfl, by omega, .inl ⟨rfl, Nat.le_refl _, Lib.hid (none_one _ _ _ _)⟩, rfl⟩
        case round =>
          obtain ⟨d, u, rfl, rfl, hd2, hu, rfl⟩ := hrel
          rcases hu with ⟨rfl, hd1, hnn⟩ | ⟨hu0, hu1, hnt⟩
          · have hdL := none_end hin.out ⟨ha0, ha1⟩ hlp hnn.out
            obtain ⟨j, hj⟩ : ∃ j, jj false s.size a d = j := ⟨_, rfl⟩
            have hjm := jj_mod false s.size a d ⟨ha0, ha1⟩ ⟨hd1, hdL⟩
            simp only [Bool.false_eq_true, if_false] at hjm
            rw [hj] at hjm
            obtain ⟨t1, t2, t3⟩ := tmod_round (a - (d : Int)) ((s.size : Int) + 1) (by omega) (by omega)
            rw [hjm] at t3
            have s0 : ((s.size : Int) + 1 == 0) = false := by rw [beq_eq_false_iff_ne]; omega
            have INj := IN.out j
            have YES := Lib.hid (fun h1 => nt_is (jj_hit hin.out ⟨ha0, ha1⟩ ⟨hd1, hdL⟩ hnn.out (by rw [hj]; exact h1)))
            have NOT := Lib.hid (fun h1 => none_next hnn.out (by rw [hj]; exact h1))
            rw [hj] at YES
            obtain ⟨tm, htm⟩ : ∃ tm, (a - (d : Int)).tmod ((s.size : Int) + 1) = tm := ⟨_, rfl⟩
            rw [htm] at t1 t2 t3
            clear hjm hj
            by_cases hm : j ∈ l
            · have hjb := hin.out j hm
              obtain ⟨hj0, hj1⟩ := hjb
              have N := Lib.hid (YES.out hm)
              rw [decide_eq_true hm] at INj
              have INH := Lib.hid INj
              clear YES NOT hm INj
              go_wp2_with fail
              refine INH.out.mono ?_; rintro e w' ⟨rfl, rfl⟩
              go_wp2_with fail
              go_roundw
              case rel => first | exact ⟨d + 1, j, by go_num, rfl, by omega, .inr ⟨hj0, hj1, N⟩, rfl⟩ | ((repeat apply Exists.intro); exact ⟨⟨d + 1, j, by go_num, rfl, by omega, .inr ⟨hj0, hj1, N⟩, rfl⟩, rfl⟩)
              case measure => simp [intOf]; omega
            · have N := Lib.hid (NOT.out hm)
              rw [decide_eq_false hm] at INj
              have INH := Lib.hid INj
              have hdL2 := none_end hin.out ⟨ha0, ha1⟩ hlp N.out
              clear YES NOT hm INj
              go_wp2_with fail
              refine INH.out.mono ?_; rintro e w' ⟨rfl, rfl⟩
              go_wp2_with fail
              go_roundw
              case rel => first | exact ⟨d + 1, -1, by go_num, rfl, by omega, .inl ⟨rfl, by omega, N⟩, rfl⟩ | ((repeat apply Exists.intro); exact ⟨⟨d + 1, -1, by go_num, rfl, by omega, .inl ⟨rfl, by omega, N⟩, rfl⟩, rfl⟩)
              case measure => simp [intOf]; omega
          · have HZ3 := HZ2.out
            rw [hnt.out] at HZ3
            have HZ4 := Lib.hid HZ3
            clear HZ3
            go_wp2_with fail
            go_roundw
            case rel => first | exact ⟨q - 1, u, by omega, congrArg (Value.int .i64) (by omega), rfl, HZ4, hu0, hu1, rfl⟩ | ((repeat apply Exists.intro); exact ⟨⟨q - 1, u, by omega, congrArg (Value.int .i64) (by omega), rfl, HZ4, hu0, hu1, rfl⟩, rfl⟩)
            case measure => simp [intOf]; omega
      · obtain rfl : q = 0 := by omega
        have hz2 := hz.out
        rw [ni] at hz2
        subst hz2
        clear hlt
        go_wp2_with fail
        go_ret3
        exact ⟨by rw [hN.out, hC.out]; rfl, BW.out⟩
end Go.Proofs.YtgkmjkjcdjkffaaDoor.Mo
