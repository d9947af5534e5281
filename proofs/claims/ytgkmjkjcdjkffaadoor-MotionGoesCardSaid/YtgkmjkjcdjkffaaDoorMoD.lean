/-
  PROVED HERE: the contract of motion's far. Conditions: as each theorem states.
-/
import Derived.Test.YtgkmjkjcdjkffaaDoorMoC
import Derived.Test.YtgkmjkjcdjkffaaDoorMoL
import Derived.Test.YtgkmjkjcdjkffaaDoorHexU
import Derived.Deep.QuietTactic
namespace Go.Proofs.YtgkmjkjcdjkffaaDoor.Mo
open Go.RowKit
theorem uh_pair (s : ByteArray) (h : s.size = 2) (h0 : 0 ≤ Dig.dig (byteAt s 0)) (h1 : 0 ≤ Dig.dig (byteAt s 1)) : Dig.uh s s.size 0 [] = .good [UInt8.ofNat (Dig.dig (byteAt s 0) * 16 + Dig.dig (byteAt s 1)).toNat] := by
  rw [h]
  have n32 : byteAt s 0 ≠ 32 := by
    intro e
    rw [e] at h0
    exact absurd h0 (by decide)
  rw [Dig.uh_go s 1 0 [] (by omega) n32 (by omega) (by omega) (by rw [Nat.zero_add]; omega), Dig.uh_end _ _ _ _ (by omega)]
  rfl
def faC (z : Option Nat) : Int := match z with | none => 8 | some _ => 0
def faN (z : Option Nat) : Int := match z with | none => 0 | some t => (t : Int)
def faB (z : Option Nat) : Bool := match z with | none => false | some _ => true
def FaR (s : ByteArray) (c : Nat) (Z : Option Nat) (w1 : World) (k i : Value) (wr : World) : Prop := ∃ p q : Nat, 1 ≤ q ∧ q ≤ 10000 ∧ p ≤ s.size + 1 ∧ i = .int .i64 p ∧ k = .int .i64 q ∧ Hid (fs s c p q = Z) ∧ Hid (Below w1.heap.size w1 wr)
def nxC (l : List Int) : Int := if l = [] then 8 else 0
noncomputable def nxN (on : Bool) (l : List Int) (k : Nat) (a : Int) : Int := if l = [] then 0 else ni on l ((k - 1) % l.length + 1) a
def NiR (on : Bool) (l : List Int) (Z : Int) (c L : Nat) (w1 : World) (t i : Value) (wr : World) : Prop := ∃ q : Nat, ∃ a : Int, q ≤ c ∧ i = .int .i64 q ∧ t = .int .i64 a ∧ Hid (ni on l (c - q) a = Z) ∧ 0 ≤ a ∧ a ≤ L ∧ wr = w1
theorem ins_nil {W : World} {v : Value} (h : Ints W v []) : ∃ a c, v = .slice a 0 c := by
  obtain ⟨a, c, rfl, _⟩ := h
  exact ⟨a, c, rfl⟩
theorem nt_in (on : Bool) (l : List Int) (a : Int) (hl : ∀ x ∈ l, ∃ t, NT on l a t) (h0 : 0 < l.length) : nt on l a ∈ l := by
  obtain ⟨t, ht⟩ := hl _ (List.getElem_mem h0)
  rw [nt_is ht]
  exact ht.1
/-- There is always one, round about. -/
theorem nt_ex (on : Bool) (l : List Int) (a : Int) (hr : Ris l) (h0 : 0 < l.length) : ∃ t, NT on l a t := by
  cases on
  · by_cases c : a ≤ l[0]
    · exact ⟨_, off_first hr h0 c⟩
    · have : ∀ k, k ≤ l.length → ∃ t, OF l a k t := by
        intro k
        induction k with
        | zero => intro _; exact ⟨_, of_zero l a⟩
        | succ k ih =>
          intro hk
          obtain ⟨t, ht⟩ := ih (by omega)
          by_cases c : l[k] < a
          · exact ⟨_, of_yes (t := t) hr (by omega) c⟩
          · exact ⟨_, of_no ht (by omega) c⟩
      obtain ⟨t, ht⟩ := this l.length (Nat.le_refl _)
      exact ⟨t, off_end h0 c ht⟩
  · by_cases c : ∃ k, ∃ hk : k < l.length, a < l[k]
    · have key : ∀ n, ∀ k (hk : k < l.length), k ≤ n → a < l[k] → ∃ t, NT true l a t := by
        intro n
        induction n with
        | zero =>
          intro k hk hkn h
          exact ⟨_, on_hit hr k hk (fun j hj hjk => by omega) h⟩
        | succ n ih =>
          intro k hk hkn h
          by_cases d : ∃ j, ∃ hj : j < l.length, j < k ∧ a < l[j]
          · obtain ⟨j, hj, h1, h2⟩ := d
            exact ih j hj (by omega) h2
          · exact ⟨_, on_hit hr k hk (fun j hj hjk g => d ⟨j, hj, hjk, g⟩) h⟩
      obtain ⟨k, hk, h⟩ := c
      exact key k k hk (Nat.le_refl _) h
    · exact ⟨_, on_end hr h0 (fun j hj g => c ⟨j, hj, g⟩)⟩
theorem nt_mem (on : Bool) (l : List Int) (a : Int) (hr : Ris l) (h0 : 0 < l.length) : nt on l a ∈ l := by
  obtain ⟨t, ht⟩ := nt_ex on l a hr h0
  rw [nt_is ht]; exact ht.1
set_option maxRecDepth 100000 in
set_option maxHeartbeats 4000000 in
theorem far_f (s : ByteArray) (hs : s.size ≤ 1000) (A : Nat) (hA : A ≤ s.size) (k : Nat) (hk : 1 ≤ k ∧ k ≤ 10000) (arg : ByteArray) (h2 : arg.size = 2) (hd0 : 0 ≤ Dig.dig (byteAt arg 0)) (hd1 : 0 ≤ Dig.dig (byteAt arg 1)) (a1 : Option Addr) (n1 c1 : Nat) (mo : Option Nat) (a2 : Option Addr) (n2 c2 : Nat) (c : Nat) (hc : c = (Dig.dig (byteAt arg 0) * 16 + Dig.dig (byteAt arg 1)).toNat) (W : World) :
    Calls Tryd.prog 22 #[.agg #[.string s, .int .i64 (A : Int), .slice a1 n1 c1, .map mo, .slice a2 n2 c2], .int .u8 102, .int .i64 k, .string arg] W (GP (faN (fs s c (A + 1) k)) (faB (fs s c (A + 1) k)) (faC (fs s c (A + 1) k)) W) := by
  obtain ⟨hk1, hk2⟩ := hk
  have hdb := Dig.dig_bounds (byteAt arg 0)
  have hdb2 := Dig.dig_bounds (byteAt arg 1)
  have hcb : c < 256 := by omega
  obtain ⟨u, hu⟩ : ∃ u : UInt8, u = UInt8.ofNat c := ⟨_, rfl⟩
  have huc : u.toNat = c := by rw [hu, UInt8.toNat_ofNat']; omega
  have U := Dig.unhex_any arg (by omega)
  rw [uh_pair arg h2 hd0 hd1, ← hc, ← hu] at U
  have HU := Lib.hid U
  clear U hdb hdb2 hd0 hd1 hc hu h2
  obtain ⟨t, ht⟩ : ∃ t : ByteArray, t = ⟨[u].toArray⟩ := ⟨_, rfl⟩
  have hts : t.size = 1 := by rw [ht]; rfl
  have ht0 : byteAt t 0 = c := by rw [ht, byteAt_list]; exact huc
  have HT : Hid (Dig.Un.str (.good [u]) = t) := Lib.hid ht.symm
  have hte : t.toList.isEmpty = false := str_full t (by omega)
  clear ht huc
  obtain ⟨Z, hZ⟩ : ∃ Z, fs s c (A + 1) k = Z := ⟨_, rfl⟩
  rw [hZ]
  have HZ := Lib.hid hZ
  clear hZ
  go_enter Tryd.func22, Tryd.ntmps22
  go_wp2_with fail
  refine (HU.out _).mono ?_; rintro e w0 ⟨x, rfl, hx, _, h0⟩
  obtain rfl := hx rfl
  rw [HT.out]
  have b0 : w0.cell? ⟨W.heap.size, 0, none⟩ = some (.string s) := (h0.cell (p := ⟨W.heap.size, 0, none⟩) (by simp)).trans (by simp)
  have b1 : w0.cell? ⟨W.heap.size, 1, none⟩ = some (.int .i64 (A : Int)) := (h0.cell (p := ⟨W.heap.size, 1, none⟩) (by simp)).trans (by simp)
  have B1 : Hid (Below W.heap.size W w0) := Lib.hid (((Below.refl _ _).alloc (Nat.le_refl _) _).trans (h0.mono (by simp)))
  clear h0 HU
  go_wp2_with fail
  go_loopw [2, 13] (fun q i wr => FaR s c Z w0 q i wr) (fun _ i _ => s.size + 1 - (intOf i).toNat)
  case atStart => exact ⟨A + 1, k, hk1, hk2, by omega, by go_num, rfl, Lib.hid HZ.out, Lib.hid (Below.refl _ _)⟩
  case round =>
    obtain ⟨p, q, hq1, hq2, hp, rfl, rfl, hz, hBr⟩ := hrel
    have r0 := keepCell hBr.out b0
    have BW := Lib.hid (B1.out.trans (hBr.out.mono B1.out.size))
    by_cases hlt : p < s.size
    · have hb1 := Lib.hid (byteAt_eq s p hlt)
      have hb2 : Hid (t[0].toNat = byteAt t 0) := Lib.hid (byteAt_eq t 0 (by omega))
      have HN := Lib.hid (fun (h : byteAt s p ≠ c) => (fs_no (k := q) hlt h).symm.trans hz.out)
      have HM := Lib.hid (fun (h : byteAt s p = c) (h1 : 1 < q) => (fs_more hlt h h1).symm.trans hz.out)
      have HH := Lib.hid (fun (h : byteAt s p = c) (h1 : q ≤ 1) => (fs_hit hlt h h1).symm.trans hz.out)
      have hbs := byteAt_lt s p
      have i0 : (0 : Nat) < t.size := by omega
      have ip0 : (0 : Int) ≤ (p : Int) := by omega
      have ip1 : (p : Int) < (s.size : Int) := by omega
      have i1 : (0 : Int) < (t.size : Int) := by omega
      have BD : ∀ n, Hid (Below w0.heap.size w0 (wr.drewN n)) := fun n => Lib.hid (below_drewN hBr.out n)
      by_cases e : byteAt s p = c
      · have e1 : ((s[p].toNat : Int) == (t[0].toNat : Int)) = true := by rw [hb1.out, hb2.out, e, ht0, beq_iff_eq]
        by_cases g : q = 1
        · subst g
          have hz2 := HH.out e (Nat.le_refl _)
          subst hz2
          go_wp2_with fail
          go_quiet (fail)
          go_wp2_with fail
          go_ret3
          exact ⟨_, rfl, .inl ⟨rfl, rfl, rfl⟩, below_drewN BW.out _⟩
        · have hz2 := Lib.hid (HM.out e (by omega))
          have g1 : ((q : Int) - 1 == 0) = false := by rw [beq_eq_false_iff_ne]; omega
          go_wp2_with fail
          go_quiet (fail)
          go_wp2_with fail
          go_roundw
          case rel => first | exact ⟨p + 1, q - 1, by omega, by omega, by omega, by go_num, by go_num, hz2, BD _⟩ | ((repeat apply Exists.intro); exact ⟨⟨p + 1, q - 1, by omega, by omega, by omega, by go_num, by go_num, hz2, BD _⟩, rfl⟩)
          case measure => simp [intOf]; omega
      · have e1 : ((s[p].toNat : Int) == (t[0].toNat : Int)) = false := by rw [hb1.out, hb2.out, ht0, beq_eq_false_iff_ne]; omega
        have hz2 := Lib.hid (HN.out e)
        go_wp2_with fail
        go_quiet (fail)
        go_wp2_with fail
        go_roundw
        case rel => first | exact ⟨p + 1, q, by omega, by omega, by omega, by go_num, rfl, hz2, BD _⟩ | ((repeat apply Exists.intro); exact ⟨⟨p + 1, q, by omega, by omega, by omega, by go_num, rfl, hz2, BD _⟩, rfl⟩)
        case measure => simp [intOf]; omega
    · have hz2 := hz.out
      rw [fs_end (by omega)] at hz2
      subst hz2
      go_wp2_with fail
      go_ret3
      exact ⟨_, rfl, .inr (.inl ⟨rfl, rfl⟩), BW.out⟩
theorem far_part (on : Bool) (op : Int) (hop : op = if on = true then 93 else 91) (s : ByteArray) (hs : s.size ≤ 1000) (A : Int) (ps : List Int) (hA : 0 ≤ A ∧ A ≤ s.size) (hps : ∀ x ∈ ps, 0 ≤ x ∧ x ≤ s.size) (hpl : ps.length ≤ 100000) (k : Nat) (hk : k ≤ 10000) (arg : ByteArray) (a1 : Option Addr) (n1 c1 : Nat) (mo : Option Nat) (v : Value) (W : World) (hi : Ints W v ps) :
    Calls Tryd.prog 22 #[.agg #[.string s, .int .i64 A, .slice a1 n1 c1, .map mo, v], .int .u8 op, .int .i64 k, .string arg] W (GP (poN s.size (pt on ps k A)) false (poC (pt on ps k A)) W) := by
  have hi2 := hi
  obtain ⟨ad, cap, rfl, hc⟩ := hi
  have C := Lib.hid (fun (W' : World) (hB : Below W.heap.size W W') => part_any on s hs A ps s.size rfl hA hps hpl k hk a1 n1 c1 mo (.slice ad ps.length cap) W' (hi2.below hB))
  clear hc hi2
  generalize pt on ps k A = Z at *
  have B0 := Lib.hid ((Below.refl W.heap.size W).alloc (Nat.le_refl _) (.cells #[.string s, .int .i64 A, .slice a1 n1 c1, .map mo, .slice ad ps.length cap] 33))
  have C2 := Lib.hid (C.out _ B0.out)
  clear C
  cases on
  · simp only [Bool.false_eq_true, if_false] at hop
    subst hop
    go_enter Tryd.func22, Tryd.ntmps22
    go_wp2_with fail
    refine C2.out.mono ?_; rintro e w0 ⟨x, rfl, hx, h0⟩
    have HX := Lib.hid hx
    have H0 := Lib.hid (B0.out.trans (h0.mono B0.out.size))
    clear hx h0
    go_wp2_with fail
    go_ret3
    exact ⟨_, rfl, HX.out, H0.out⟩
  · simp only [if_true] at hop
    subst hop
    go_enter Tryd.func22, Tryd.ntmps22
    go_wp2_with fail
    refine C2.out.mono ?_; rintro e w0 ⟨x, rfl, hx, h0⟩
    have HX := Lib.hid hx
    have H0 := Lib.hid (B0.out.trans (h0.mono B0.out.size))
    clear hx h0
    go_wp2_with fail
    go_ret3
    exact ⟨_, rfl, HX.out, H0.out⟩
set_option maxRecDepth 100000 in
set_option maxHeartbeats 4000000 in
theorem far_n (on : Bool) (op : Int) (hop : op = if on = true then 110 else 78) (s : ByteArray) (hs : s.size ≤ 1000) (A : Int) (ms : List Int) (hA : 0 ≤ A ∧ A ≤ s.size) (hml : ms.length ≤ 1000000) (hmb : ∀ x ∈ ms, -9223372036854775808 ≤ x ∧ x ≤ 9223372036854775807) (k : Nat) (hk : 1 ≤ k ∧ k ≤ 10000) (arg : ByteArray) (v : Value) (mo : Option Nat) (a2 : Option Addr) (n2 c2 : Nat) (W : World) (hi : Ints W v ms) :
    Calls Tryd.prog 22 #[.agg #[.string s, .int .i64 A, v, .map mo, .slice a2 n2 c2], .int .u8 op, .int .i64 k, .string arg] W (GP (nxN on (Fd.ll s ms) k A) false (nxC (Fd.ll s ms)) W) := by
  have hi2 := hi
  obtain ⟨hk1, hk2⟩ := hk
  obtain ⟨ad, cap, rfl, hc⟩ := hi
  have B0 := Lib.hid ((Below.refl W.heap.size W).alloc (Nat.le_refl _) (.cells #[.string s, .int .i64 A, .slice ad ms.length cap, .map mo, .slice a2 n2 c2] 33))
  have C2 := Lib.hid (like_all s (.slice ad ms.length cap) ms hml hs _ (hi2.below B0.out) hmb)
  have hr := Lib.hid (ll_ris s ms)
  have hin := Lib.hid (ll_in s ms)
  have hll := Fd.ll_len s ms
  clear hc hi2 hmb
  generalize Fd.ll s ms = l at *
  have NX := fun (v : Value) (a : Int) (h0 : 0 < l.length) (W : World) (hi : Ints W v l) => next_any on v l a (by omega) h0 hr.out W hi
  have o1 : ((op : Int) == 102) = false := by cases on <;> simp at hop <;> subst hop <;> rfl
  have o2 : ((op : Int) == 93) = false := by cases on <;> simp at hop <;> subst hop <;> rfl
  have o3 : ((op : Int) == 91) = false := by cases on <;> simp at hop <;> subst hop <;> rfl
  have o4 : ((op : Int) == 110) = on := by cases on <;> simp at hop <;> subst hop <;> rfl
  have NXH := Lib.hid NX
  clear NX hop
  by_cases hl0 : l = []
  · subst hl0
    rw [show nxN on [] k A = 0 from rfl, show nxC [] = 8 from rfl]
    clear NXH o4 hr hin
    go_enter Tryd.func22, Tryd.ntmps22
    go_wp2_with fail
    refine C2.out.mono ?_; rintro e w0 h0
    rcases h0 with ⟨v, rfl, hi0, h0⟩ | ⟨_, v, t, z, rfl, hi0, h0⟩
    all_goals
      have H0 := Lib.hid (B0.out.trans (h0.mono B0.out.size))
      clear h0
      obtain ⟨ad1, cap1, rfl⟩ := ins_nil hi0
      go_wp2_with fail
      go_ret3
      exact ⟨_, rfl, .inr (.inl ⟨rfl, rfl⟩), H0.out⟩
  · have hlp : 0 < l.length := List.length_pos_iff.2 hl0
    have l0 : ((l.length : Int) == 0) = false := by rw [beq_eq_false_iff_ne]; omega
    obtain ⟨cnt, hcnt⟩ : ∃ cnt, (k - 1) % l.length + 1 = cnt := ⟨_, rfl⟩
    have hcb : cnt ≤ l.length := by rw [← hcnt]; exact Nat.mod_lt _ hlp
    have hcI : ((k : Int) - 1) % (l.length : Int) + 1 = (cnt : Int) := by
      rw [← hcnt, show (k : Int) - 1 = ((k - 1 : Nat) : Int) by omega, Int.natCast_add, Int.natCast_emod]; rfl
    have hct : ((k : Int) - 1).tmod (l.length : Int) = (cnt : Int) - 1 := by
      rw [Int.tmod_eq_emod_of_nonneg (by omega)]; omega
    have hce : ((k : Int) - 1) % (l.length : Int) = (cnt : Int) - 1 := by omega
    have hn : nxN on l k A = ni on l cnt A := by unfold nxN; rw [if_neg hl0, hcnt]
    have hC : nxC l = 0 := by unfold nxC; rw [if_neg hl0]
    rw [hn, hC]
    obtain ⟨Z, hZ⟩ : ∃ Z, ni on l cnt A = Z := ⟨_, rfl⟩
    rw [hZ]
    have HZ := Lib.hid hZ
    have HL0 := Lib.hid hl0
    clear hZ hn hC hcnt hl0
    go_enter Tryd.func22, Tryd.ntmps22
    go_wp2_with fail
    refine C2.out.mono ?_; rintro e w0 h0
    rcases h0 with ⟨v, rfl, hi0, h0⟩ | ⟨hl1, v, t, z, rfl, hi0, h0⟩
    · have H0 := Lib.hid (B0.out.trans (h0.mono B0.out.size))
      have b1 : w0.cell? ⟨W.heap.size, 1, none⟩ = some (.int .i64 A) := (h0.cell (p := ⟨W.heap.size, 1, none⟩) (by simp)).trans (by simp)
      clear h0
      have hi1 := hi0
      obtain ⟨ad1, cap1, rfl, hc1⟩ := hi0
      clear hc1
      have HI := Lib.hid hi1
      clear hi1
      go_wp2_with fail
      go_loopw [16, 90] (fun t i wr => NiR on l Z cnt s.size w0 t i wr) (fun _ i _ => cnt - (intOf i).toNat)
      case atStart => exact ⟨0, A, Nat.zero_le _, rfl, rfl, Lib.hid HZ.out, hA.1, hA.2, rfl⟩
      case round =>
        obtain ⟨q, a, hq, rfl, rfl, hz, ha0, ha1, rfl⟩ := hrel
        by_cases hlt : q < cnt
        · have hm := nt_mem on l a hr.out hlp
          have hmb := hin.out _ hm
          have hz2 := hz.out
          rw [show cnt - q = (cnt - (q + 1)) + 1 by omega, ni] at hz2
          have HZ2 := Lib.hid hz2
          have NX2 := Lib.hid (NXH.out _ a hlp wr HI.out)
          clear hm hz2
          generalize nt on l a = b at *
          obtain ⟨hb0, hb1⟩ := hmb
          go_wp2_with fail
          refine NX2.out.mono ?_; rintro e w' ⟨rfl, rfl⟩
          go_wp2_with fail
          go_roundw
          case rel => first | exact ⟨q + 1, b, by omega, by go_num, rfl, HZ2, hb0, hb1, rfl⟩ | ((repeat apply Exists.intro); exact ⟨⟨q + 1, b, by omega, by go_num, rfl, HZ2, hb0, hb1, rfl⟩, rfl⟩)
          case measure => simp [intOf]; omega
        · obtain rfl : q = cnt := by omega
          have hz2 := hz.out
          rw [Nat.sub_self, ni] at hz2
          subst hz2
          go_wp2_with fail
          go_ret3
          exact ⟨_, rfl, .inl ⟨rfl, rfl, rfl⟩, H0.out⟩
    · exact absurd hl1 HL0.out
end Go.Proofs.YtgkmjkjcdjkffaaDoor.Mo
