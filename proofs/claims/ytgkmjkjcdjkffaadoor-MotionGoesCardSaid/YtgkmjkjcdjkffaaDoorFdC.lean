/-
  PROVED HERE: the contract of find.Like at every pattern, and of the document's MaskLike. Conditions: as each theorem states.
-/
import Derived.Test.YtgkmjkjcdjkffaaDoorFdB
import Derived.Test.YtgkmjkjcdjkffaaDoorRef
namespace Go.Proofs.YtgkmjkjcdjkffaaDoor.Fd
open Go.RowKit
def bad (m : List Int) : Prop := m.length % 2 = 1 ∨ m.length / 2 < 1 ∨ 64 < m.length / 2
instance (m : List Int) : Decidable (bad m) := by unfold bad; infer_instance
def ll (s : ByteArray) (m : List Int) : List Int := if bad m then [] else lk s m (m.length / 2) s.size
def lc (m : List Int) : Int := if bad m then 1 else 0
def RQ (l : List Int) (c : Int) (W : World) (e : Ending) (w' : World) : Prop := ∃ v x, e = .returned (.tuple #[v, x]) ∧ Ints w' v l ∧ Err.ErrIs w' x c (-1) ∧ Below W.heap.size W w'
def DQ (l : List Int) (c : Int) (W : World) (e : Ending) (w' : World) : Prop := ∃ v, e = .returned (.tuple #[v, .int .i64 c]) ∧ Ints w' v l ∧ Below W.heap.size W w'
theorem ll_len (s : ByteArray) (m : List Int) : (ll s m).length ≤ s.size + 1 := by
  unfold ll
  split
  · simp
  · exact lk_len s m _ _
set_option maxRecDepth 100000 in
set_option maxHeartbeats 1000000 in
theorem like_no (s : ByteArray) (v : Value) (m : List Int) (hb : bad m) (hl : m.length ≤ 1000000) (W : World) (hi : Ints W v m) :
    Calls Tryd.prog 31 #[.string s, v] W (RQ [] 1 W) := by
  obtain ⟨a, cap, rfl, hc⟩ := hi
  clear hc
  unfold bad at hb
  generalize m.length = L at *
  rcases (show (L / 2 = 0) ∨ (¬ L / 2 = 0 ∧ 64 < L / 2) ∨ (¬ L / 2 = 0 ∧ ¬ 64 < L / 2 ∧ L % 2 = 1) by omega) with h1 | ⟨h1, h2⟩ | ⟨h1, h2, h3⟩
  · have b1 : ((L : Int) / 2 == 0) = true := by rw [beq_iff_eq]; omega
    clear hb
    go_enter Tryd.func31, Tryd.ntmps31
    go_wp2_with fail
    go_ret2
    exact ⟨_, _, rfl, ints_nil _, .inr (.inl ⟨rfl, rfl⟩), Below.refl _ _⟩
  · have b1 : ((L : Int) / 2 == 0) = false := by rw [beq_eq_false_iff_ne]; omega
    have b2 : decide ((64 : Int) < (L : Int) / 2) = true := decide_eq_true (by omega)
    clear hb
    go_enter Tryd.func31, Tryd.ntmps31
    go_wp2_with fail
    go_ret2
    exact ⟨_, _, rfl, ints_nil _, .inr (.inl ⟨rfl, rfl⟩), Below.refl _ _⟩
  · have b1 : ((L : Int) / 2 == 0) = false := by rw [beq_eq_false_iff_ne]; omega
    have b2 : decide ((64 : Int) < (L : Int) / 2) = false := decide_eq_false (by omega)
    have b3 : ((L : Int) % 2 == 1) = true := by rw [beq_iff_eq]; omega
    clear hb
    go_enter Tryd.func31, Tryd.ntmps31
    go_wp2_with fail
    go_ret2
    exact ⟨_, _, rfl, ints_nil _, .inr (.inl ⟨rfl, rfl⟩), Below.refl _ _⟩
theorem like_any (s : ByteArray) (v : Value) (m : List Int) (hl : m.length ≤ 1000000) (hs : s.size ≤ 1000) (W : World) (hi : Ints W v m) (hb : ∀ x ∈ m, -9223372036854775808 ≤ x ∧ x ≤ 9223372036854775807) :
    Calls Tryd.prog 31 #[.string s, v] W (RQ (ll s m) (lc m) W) := by
  unfold ll lc
  by_cases h : bad m
  · rw [if_pos h, if_pos h]
    exact like_no s v m h hl W hi
  · rw [if_neg h, if_neg h]
    unfold bad at h
    exact like_yes s v m (m.length / 2) (by omega) (by omega) hs W hi hb
set_option maxRecDepth 100000 in
set_option maxHeartbeats 1000000 in
theorem docLike_no (s : ByteArray) (v : Value) (m : List Int) (hb : bad m) (hl : m.length ≤ 1000000) (W : World) (hi : Ints W v m) :
    Calls Tryd.prog 19 #[.string s, v] W (DQ [] 1 W) := by
  obtain ⟨a, cap, rfl, hc⟩ := hi
  clear hc
  unfold bad at hb
  generalize m.length = L at *
  by_cases h1 : L % 2 = 1
  · have b1 : ((L : Int) % 2 == 1) = true := by rw [beq_iff_eq]; omega
    clear hb
    go_enter Tryd.func19, Tryd.ntmps19
    go_wp2_with fail
    go_ret2
    exact ⟨_, rfl, ints_nil _, Below.refl _ _⟩
  · have b1 : ((L : Int) % 2 == 1) = false := by rw [beq_eq_false_iff_ne]; omega
    have H : Hid ((L : Int) / 2 < 1 ∨ 64 < (L : Int) / 2) := Lib.hid (by omega)
    clear hb
    go_enter Tryd.func19, Tryd.ntmps19
    go_wp2_with fail
    refine (Ref.within_no _ _ _ H.out _).mono ?_; rintro e w' ⟨rfl, rfl⟩
    go_wp2_with fail
    go_ret2
    exact ⟨_, rfl, ints_nil _, Below.refl _ _⟩
def lkk (s : ByteArray) (m : List Int) (k : Nat) : List Int := ((List.range k).filter (ms s m)).map fun p : Nat => (p : Int)
theorem lkk_len (s : ByteArray) (m : List Int) (k : Nat) : (lkk s m k).length ≤ k := by
  unfold lkk
  rw [List.length_map]
  have := List.length_filter_le (ms s m) (List.range k)
  rw [List.length_range] at this
  exact this
theorem lkk_succ (s : ByteArray) (m : List Int) (k : Nat) : lkk s m (k + 1) = lkk s m k ++ if ms s m k = true then [(k : Int)] else [] := by
  unfold lkk
  rw [List.range_succ, List.filter_append, List.map_append]
  congr 1
  by_cases h2 : ms s m k = true
  · rw [if_pos h2]; simp [h2]
  · rw [if_neg h2]; simp [h2]
theorem all_next (f : Nat → Bool) (j : Nat) : (List.range (j + 1)).all f = ((List.range j).all f && f j) := by
  rw [List.range_succ, List.all_append]
  simp
theorem hh_even (s : ByteArray) (m : List Int) (i j : Nat) (h : j % 2 = 0) : hh s m i j = (decide (m.getD j 0 < 0) || (m.getD j 0 == (byteAt s (i + j / 2) : Int) / 16)) := by
  unfold hh
  rw [if_neg (by omega), Bool.eq_iff_iff]
  simp
theorem hh_odd (s : ByteArray) (m : List Int) (i j : Nat) (h : j % 2 = 1) : hh s m i j = (decide (m.getD j 0 < 0) || (m.getD j 0 == (byteAt s (i + j / 2) : Int) % 16)) := by
  unfold hh
  rw [if_pos h, Bool.eq_iff_iff]
  simp
def Mo (s : ByteArray) (m : List Int) (n : Nat) (W : World) (v i : Value) (wr : World) : Prop :=
  ∃ k : Nat, k ≤ s.size + 1 - n ∧ i = .int .i64 k ∧ (∃ a cap, v = .slice a (lkk s m k).length cap) ∧ Hid (Own wr W.heap.size 3 v (i64s (lkk s m k))) ∧ Hid (Below W.heap.size W wr)
def Mi (s : ByteArray) (m : List Int) (n k : Nat) (W : World) (v b j : Value) (wr : World) : Prop :=
  ∃ q : Nat, q ≤ 2 * n ∧ j = .int .i64 q ∧ (∃ bb : Bool, b = .bool bb ∧ Hid (bb = (List.range q).all (hh s m k))) ∧ Hid (Own wr W.heap.size 3 v (i64s (lkk s m k))) ∧ Hid (Below W.heap.size W wr)
set_option maxRecDepth 100000 in
set_option maxHeartbeats 4000000 in
theorem docLike_yes (s : ByteArray) (v : Value) (m : List Int) (n : Nat) (hm : m.length = 2 * n) (hn : 1 ≤ n ∧ n ≤ 64) (hs : s.size ≤ 1000) (W : World) (hi : Ints W v m) (hb : ∀ x ∈ m, -9223372036854775808 ≤ x ∧ x ≤ 9223372036854775807) :
    Calls Tryd.prog 19 #[.string s, v] W (DQ (lk s m n s.size) 0 W) := by
  obtain ⟨hn1, hn2⟩ := hn
  obtain ⟨a, cap, rfl, hc⟩ := hi
  have hcH : Hid (∀ j, j < 2 * n → ∃ ad, a = some ad ∧ W.cell? (ad.add j) = some (.int .i64 (m.getD j 0))) := Lib.hid (fun j hj => by
    obtain ⟨ad, h1, h2⟩ := hc j (by omega)
    refine ⟨ad, h1, h2.trans ?_⟩
    rw [List.getD_eq_getElem?_getD, List.getElem?_eq_getElem (by omega)]; rfl)
  have hbH : Hid (∀ j, j < 2 * n → -9223372036854775808 ≤ m.getD j 0 ∧ m.getD j 0 ≤ 9223372036854775807) := Lib.hid (fun j hj => by
    rw [List.getD_eq_getElem?_getD, List.getElem?_eq_getElem (by omega)]
    exact hb _ (List.getElem_mem _))
  have hmH := Lib.hid hm
  rw [hm]
  clear hc hb hm
  have b2 : (2 * (n : Int) % 2 == 1) = false := by rw [beq_eq_false_iff_ne]; omega
  go_enter Tryd.func19, Tryd.ntmps19
  go_wp2_with fail
  refine (Ref.within_yes _ _ _ (by omega) (by omega) _).mono ?_; rintro e w' ⟨rfl, rfl⟩
  go_wp2_with fail
  clear b2
  go_loopw [7, 8] (fun v i wr => Mo s m n W v i wr) (fun _ i _ => s.size + 1 - n - (intOf i).toNat)
  case atStart => exact ⟨0, by omega, rfl, ⟨none, 0, rfl⟩, Lib.hid (own_nil _ _ _), Lib.hid (Below.refl _ _)⟩
  case round =>
    obtain ⟨k, hk, rfl, ⟨a2, cap2, rfl⟩, ho0, hB0⟩ := hrel
    have hll := lkk_len s m k
    by_cases hkl : k + n ≤ s.size
    · go_wp2_with fail
      go_loopw [9, 35] (fun b j wr => Mi s m n k W (.slice a2 (lkk s m k).length cap2) b j wr) (fun _ j _ => 2 * n - (intOf j).toNat)
      case atStart => exact ⟨0, by omega, rfl, ⟨true, rfl, Lib.hid rfl⟩, ho0, hB0⟩
      case round =>
        obtain ⟨j, hj, rfl, ⟨bb, rfl, hbv⟩, ho, hBH⟩ := hrel
        clear ho0 hB0
        by_cases hjl : j < 2 * n
        · obtain ⟨ad, rfl, hc0⟩ := hcH.out j hjl
          have hA := (hBH.out.cell (p := ad.add j) (World.block_lt_of_cell? W _ hc0)).trans hc0
          have x1 := hbH.out j hjl
          have hib : k + j / 2 < s.size := by omega
          have hbb := Lib.hid (byteAt_eq s (k + j / 2) hib)
          have hb3 : s[k + j / 2].toNat < 256 := UInt8.toNat_lt _
          have i1 : (0 : Int) ≤ (k : Int) + (j : Int) / 2 := by omega
          have i2 : (k : Int) + (j : Int) / 2 < (s.size : Int) := by omega
          have HE := Lib.hid (hh_even s m k j)
          have HO := Lib.hid (hh_odd s m k j)
          clear hc0
          generalize m.getD j 0 = x at *
          by_cases hodd : j % 2 = 1
          · have b4 : ((j : Int) % 2 == 1) = true := by rw [beq_iff_eq]; omega
            have HV := Lib.hid (HO.out hodd)
            clear HE HO
            cases bb with
            | false =>
              go_wp2_with fail
              go_roundw
              case rel => first | exact ⟨j + 1, by omega, by go_num, ⟨_, rfl, Lib.hid (by rw [all_next, ← hbv.out]; rfl)⟩, ho, hBH⟩ | ((repeat apply Exists.intro); exact ⟨⟨j + 1, by omega, by go_num, ⟨_, rfl, Lib.hid (by rw [all_next, ← hbv.out]; rfl)⟩, ho, hBH⟩, rfl⟩)
              case measure => simp [intOf]; omega
            | true =>
              rcases tri x ((s[k + j / 2].toNat : Int) % 16) with a1 | ⟨a1, a2⟩ | ⟨a1, a2⟩
              · have hv := Lib.hid HV.out
                go_wp2_with fail
                go_roundw
                case rel => first | exact ⟨j + 1, by omega, by go_num, ⟨_, rfl, Lib.hid (by rw [all_next, ← hbv.out, hv.out, ← hbb.out]; simp [a1])⟩, ho, hBH⟩ | ((repeat apply Exists.intro); exact ⟨⟨j + 1, by omega, by go_num, ⟨_, rfl, Lib.hid (by rw [all_next, ← hbv.out, hv.out, ← hbb.out]; simp [a1])⟩, ho, hBH⟩, rfl⟩)
                case measure => simp [intOf]; omega
              · have hv := Lib.hid HV.out
                go_wp2_with fail
                go_roundw
                case rel => first | exact ⟨j + 1, by omega, by go_num, ⟨_, rfl, Lib.hid (by rw [all_next, ← hbv.out, hv.out, ← hbb.out]; simp [a1, a2])⟩, ho, hBH⟩ | ((repeat apply Exists.intro); exact ⟨⟨j + 1, by omega, by go_num, ⟨_, rfl, Lib.hid (by rw [all_next, ← hbv.out, hv.out, ← hbb.out]; simp [a1, a2])⟩, ho, hBH⟩, rfl⟩)
                case measure => simp [intOf]; omega
              · have hv := Lib.hid HV.out
                go_wp2_with fail
                go_roundw
                case rel => first | exact ⟨j + 1, by omega, by go_num, ⟨_, rfl, Lib.hid (by rw [all_next, ← hbv.out, hv.out, ← hbb.out]; simp [a1, a2])⟩, ho, hBH⟩ | ((repeat apply Exists.intro); exact ⟨⟨j + 1, by omega, by go_num, ⟨_, rfl, Lib.hid (by rw [all_next, ← hbv.out, hv.out, ← hbb.out]; simp [a1, a2])⟩, ho, hBH⟩, rfl⟩)
                case measure => simp [intOf]; omega
          · have b4 : ((j : Int) % 2 == 1) = false := by rw [beq_eq_false_iff_ne]; omega
            have HV := Lib.hid (HE.out (by omega))
            clear HE HO
            cases bb with
            | false =>
              go_wp2_with fail
              go_roundw
              case rel => first | exact ⟨j + 1, by omega, by go_num, ⟨_, rfl, Lib.hid (by rw [all_next, ← hbv.out]; rfl)⟩, ho, hBH⟩ | ((repeat apply Exists.intro); exact ⟨⟨j + 1, by omega, by go_num, ⟨_, rfl, Lib.hid (by rw [all_next, ← hbv.out]; rfl)⟩, ho, hBH⟩, rfl⟩)
              case measure => simp [intOf]; omega
            | true =>
              rcases tri x ((s[k + j / 2].toNat : Int) / 16) with a1 | ⟨a1, a2⟩ | ⟨a1, a2⟩
              · have hv := Lib.hid HV.out
                go_wp2_with fail
                go_roundw
                case rel => first | exact ⟨j + 1, by omega, by go_num, ⟨_, rfl, Lib.hid (by rw [all_next, ← hbv.out, hv.out, ← hbb.out]; simp [a1])⟩, ho, hBH⟩ | ((repeat apply Exists.intro); exact ⟨⟨j + 1, by omega, by go_num, ⟨_, rfl, Lib.hid (by rw [all_next, ← hbv.out, hv.out, ← hbb.out]; simp [a1])⟩, ho, hBH⟩, rfl⟩)
                case measure => simp [intOf]; omega
              · have hv := Lib.hid HV.out
                go_wp2_with fail
                go_roundw
                case rel => first | exact ⟨j + 1, by omega, by go_num, ⟨_, rfl, Lib.hid (by rw [all_next, ← hbv.out, hv.out, ← hbb.out]; simp [a1, a2])⟩, ho, hBH⟩ | ((repeat apply Exists.intro); exact ⟨⟨j + 1, by omega, by go_num, ⟨_, rfl, Lib.hid (by rw [all_next, ← hbv.out, hv.out, ← hbb.out]; simp [a1, a2])⟩, ho, hBH⟩, rfl⟩)
                case measure => simp [intOf]; omega
              · have hv := Lib.hid HV.out
                go_wp2_with fail
                go_roundw
                case rel => first | exact ⟨j + 1, by omega, by go_num, ⟨_, rfl, Lib.hid (by rw [all_next, ← hbv.out, hv.out, ← hbb.out]; simp [a1, a2])⟩, ho, hBH⟩ | ((repeat apply Exists.intro); exact ⟨⟨j + 1, by omega, by go_num, ⟨_, rfl, Lib.hid (by rw [all_next, ← hbv.out, hv.out, ← hbb.out]; simp [a1, a2])⟩, ho, hBH⟩, rfl⟩)
                case measure => simp [intOf]; omega
        · obtain rfl : j = 2 * n := by omega
          have hms : Hid (bb = ms s m k) := Lib.hid (by rw [hbv.out]; unfold ms; rw [hmH.out])
          have hsu := Lib.hid (lkk_succ s m k)
          cases bb with
          | false =>
            go_wp2_with fail
            have hs2 : Hid (lkk s m (k + 1) = lkk s m k) := Lib.hid (by rw [hsu.out, ← hms.out]; simp)
            go_roundw
            case rel => first | exact ⟨k + 1, by omega, by go_num, ⟨_, _, by rw [hs2.out]⟩, by rw [hs2.out]; exact ho, hBH⟩ | ((repeat apply Exists.intro); exact ⟨⟨k + 1, by omega, by go_num, ⟨_, _, by rw [hs2.out]⟩, by rw [hs2.out]; exact ho, hBH⟩, rfl⟩)
            case measure => simp [intOf]; omega
          | true =>
            have hs2 : Hid (lkk s m (k + 1) = lkk s m k ++ [(k : Int)]) := Lib.hid (by rw [hsu.out, ← hms.out]; simp)
            go_wp2_with (at_builtin; refine own_append1 rfl _ _ 22 rfl W.heap.size 3 (.int .i64 0) 8 Tryd.underlying22 (by kernel_rfl) rfl _ _ rfl (ho.out.alloc _) _ 1 _ rfl (new_cell _ _ _) rfl (by rw [i64s_len]; omega) (by rw [i64s_len]; omega) (le_alloc hBH.out.size _) ?_; intro v1 w1 ho1 hg1 hb1 hat1; have hb2 := below_append (Below.refl W.heap.size _) _ hBH.out.size hb1; rw [i64s_snoc, ← hs2.out] at ho1; have hB1 := Lib.hid (hBH.out.trans hb2); have ho1H := Lib.hid ho1; clear hg1 hb1 hat1 hb2 ho1)
            go_roundw
            case rel => first | exact ⟨k + 1, by omega, by go_num, (by obtain ⟨a', c', e'⟩ := ho1H.out.len; rw [i64s_len] at e'; exact ⟨a', c', e'⟩), ho1H, hB1⟩ | ((repeat apply Exists.intro); exact ⟨⟨k + 1, by omega, by go_num, (by obtain ⟨a', c', e'⟩ := ho1H.out.len; rw [i64s_len] at e'; exact ⟨a', c', e'⟩), ho1H, hB1⟩, rfl⟩)
            case measure => simp [intOf]; omega
    · have hks : Hid (lk s m n s.size = lkk s m k) := Lib.hid (by
        obtain rfl : k = s.size + 1 - n := by omega
        rfl)
      go_wp2_with fail
      go_ret2
      exact ⟨_, rfl, by rw [hks.out]; exact ho0.out.ints, hB0.out⟩
theorem docLike_any (s : ByteArray) (v : Value) (m : List Int) (hl : m.length ≤ 1000000) (hs : s.size ≤ 1000) (W : World) (hi : Ints W v m) (hb : ∀ x ∈ m, -9223372036854775808 ≤ x ∧ x ≤ 9223372036854775807) :
    Calls Tryd.prog 19 #[.string s, v] W (DQ (ll s m) (lc m) W) := by
  unfold ll lc
  by_cases h : bad m
  · rw [if_pos h, if_pos h]
    exact docLike_no s v m h hl W hi
  · rw [if_neg h, if_neg h]
    unfold bad at h
    exact docLike_yes s v m (m.length / 2) (by omega) (by omega) hs W hi hb
end Go.Proofs.YtgkmjkjcdjkffaaDoor.Fd
