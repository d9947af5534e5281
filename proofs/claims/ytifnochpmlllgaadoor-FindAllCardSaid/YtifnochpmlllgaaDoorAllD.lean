/-
  PROVED HERE: the contracts of the document's stands, FindAll. Conditions: as each theorem states.
-/
import Derived.Test.YtifnochpmlllgaaDoorAllC
import Derived.Laws.DeepStrings4
namespace Go.Proofs.YtifnochpmlllgaaDoor.All
open Go.RowKit
theorem ba_ext (a b : ByteArray) (hs : a.size = b.size) (h : ∀ j, j < a.size → byteAt a j = byteAt b j) : a = b := by
  have e : a.data = b.data := by
    refine Array.ext hs fun j h1 h2 => ?_
    have e1 := byteAt_eq a j h1
    have e2 := byteAt_eq b j h2
    have := h j h1
    rw [← e1, ← e2] at this
    exact UInt8.toNat_inj.1 this
  cases a; cases b; cases e; rfl
theorem list_eq (a b : ByteArray) : (a.toList == b.toList) = decide (a = b) := by
  rw [Bool.eq_iff_iff, beq_iff_eq, decide_eq_true_iff, ByteArray.toList_eq, ByteArray.toList_eq]
  constructor
  · intro h
    cases a; cases b
    exact congrArg ByteArray.mk (Array.toList_inj.1 h)
  · rintro rfl; rfl
theorem sg_iff (s p : ByteArray) (i : Nat) (h : i + p.size ≤ s.size) : sg s p i = decide (s.extract i (i + p.size) = p) := by
  have hz : (s.extract i (i + p.size)).size = p.size := by rw [ByteArray.size_extract]; omega
  unfold sg
  rw [decide_eq_decide]
  unfold mt
  constructor
  · rintro ⟨_, h2⟩
    refine ba_ext _ _ hz fun j hj => ?_
    rw [byteAt_extract s i _ j (by omega) h, h2 j (by omega)]
    congr 1; omega
  · intro e
    refine ⟨by omega, fun j hj => ?_⟩
    have := byteAt_extract s i (i + p.size) j (by omega) h
    rw [e] at this
    rw [this]; congr 1; omega
def st (s p : ByteArray) (i : Nat) : Bool := decide (i + p.size ≤ s.size) && sg s p i
set_option maxRecDepth 100000 in
set_option maxHeartbeats 2000000 in
theorem stands_any (s p : ByteArray) (i : Nat) (hi : i ≤ s.size) (hs : s.size ≤ 1000) (hp : p.size ≤ 1000) (W : World) :
    Calls Tryd.prog 98 #[.string s, .string p, .int .i64 i] W fun e w' => e = .returned (.bool (st s p i)) ∧ W = w' := by
  by_cases h : i + p.size ≤ s.size
  · have e := Lib.hid (sg_iff s p i h)
    have e0 := Lib.hid (decide_eq_true h)
    go_enter Tryd.func98, Tryd.ntmps98
    go_wp2_with fail
    go_ret
    refine ⟨?_, rfl⟩
    unfold st
    rw [e.out, e0.out, ← list_eq]
    rfl
  · have e0 := Lib.hid (decide_eq_false h)
    go_enter Tryd.func98, Tryd.ntmps98
    go_wp2_with fail
    go_ret
    refine ⟨?_, rfl⟩
    unfold st
    rw [e0.out]
    rfl
def dl (s p : ByteArray) (k : Nat) : List Int := ((List.range k).filter (st s p)).map fun x : Nat => (x : Int)
theorem dl_len (s p : ByteArray) (k : Nat) : (dl s p k).length ≤ k := by
  unfold dl
  rw [List.length_map]
  have := List.length_filter_le (st s p) (List.range k)
  rw [List.length_range] at this
  exact this
theorem dl_succ (s p : ByteArray) (k : Nat) : dl s p (k + 1) = dl s p k ++ if st s p k = true then [(k : Int)] else [] := by
  unfold dl
  rw [List.range_succ, List.filter_append, List.map_append]
  congr 1
  by_cases h2 : st s p k = true
  · rw [if_pos h2]; simp [h2]
  · rw [if_neg h2]; simp [h2]
theorem filter_map_eq (f g : Nat → Bool) : ∀ (n m : Nat), m ≤ n → (∀ x, x < m → f x = g x) → (∀ x, m ≤ x → x < n → f x = false) → (List.range n).filter f = (List.range m).filter g
  | 0, m, h, h1, h2 => by
    obtain rfl : m = 0 := by omega
    rfl
  | n + 1, m, h, h1, h2 => by
    rcases Nat.lt_or_ge n m with hl | hl
    · obtain rfl : m = n + 1 := by omega
      refine List.filter_congr fun x hx => h1 x (List.mem_range.1 hx)
    · rw [List.range_succ, List.filter_append, filter_map_eq f g n m hl h1 (fun x a b => h2 x a (by omega))]
      have := h2 n hl (by omega)
      simp [this]
theorem dl_al (s p : ByteArray) (h : 1 ≤ p.size) : dl s p s.size = al s p s.size := by
  unfold dl al
  rw [filter_map_eq (st s p) (sg s p) s.size (s.size + 1 - p.size) (by omega)]
  · intro x hx
    unfold st
    rw [decide_eq_true (by omega), Bool.true_and]
  · intro x hx _
    unfold st
    rw [decide_eq_false (by omega), Bool.false_and]
def Do (s p : ByteArray) (W : World) (v iv : Value) (wr : World) : Prop :=
  ∃ i : Nat, i ≤ s.size ∧ iv = .int .i64 i ∧ (∃ a cap, v = .slice a (dl s p i).length cap) ∧ Hid (Own wr W.heap.size 3 v (i64s (dl s p i))) ∧ Hid (Below W.heap.size W wr)
set_option maxRecDepth 100000 in
set_option maxHeartbeats 2000000 in
theorem docAll_yes (s p : ByteArray) (hs : s.size ≤ 1000) (hp1 : 1 ≤ p.size) (hp : p.size ≤ 1000) (W : World) :
    Calls Tryd.prog 54 #[.string s, .string p] W (DQ (al s p s.size) 0 W) := by
  rw [← dl_al s p hp1]
  have hz := str_full p hp1
  have CS := Lib.hid (fun i h W => stands_any s p i h hs hp W)
  go_enter Tryd.func54, Tryd.ntmps54
  go_wp2_with fail
  clear hz
  go_loopw [6, 12] (fun v i wr => Do s p W v i wr) (fun _ i _ => s.size - (intOf i).toNat)
  case atStart => exact ⟨0, Nat.zero_le _, rfl, ⟨none, 0, rfl⟩, Lib.hid (own_nil _ _ _), Lib.hid (Below.refl _ _)⟩
  case round =>
    obtain ⟨i, hi, rfl, ⟨a, cap, rfl⟩, ho, hBH⟩ := hrel
    have hll := dl_len s p i
    by_cases hlt : i < s.size
    · have hsu := Lib.hid (dl_succ s p i)
      go_wp2_with fail
      refine (CS.out i hi _).mono ?_; rintro e w' ⟨rfl, rfl⟩
      cases hst : st s p i with
      | true =>
        have hM := Lib.hid hsu.out
        rw [hst, if_pos rfl] at hM
        go_wp2_with (at_builtin; refine own_append1 rfl _ _ 50 rfl W.heap.size 3 (.int .i64 0) 8 Tryd.underlying50 (by kernel_rfl) rfl _ _ rfl (ho.out.alloc _) _ 1 _ rfl (new_cell _ _ _) rfl (by rw [i64s_len]; omega) (by rw [i64s_len]; omega) (le_alloc hBH.out.size _) ?_; intro v1 w2 ho1 hg1 hb1 hat1; have hb2 := below_append hBH.out _ hBH.out.size hb1; rw [i64s_snoc, ← hM.out] at ho1; have hB1 := Lib.hid hb2; have ho1H := Lib.hid ho1; clear hg1 hb1 hat1 hb2 ho1)
        go_roundw
        case rel => first | exact ⟨i + 1, by omega, by go_num, (by obtain ⟨a', c', e'⟩ := ho1H.out.len; rw [i64s_len] at e'; exact ⟨a', c', e'⟩), ho1H, hB1⟩ | ((repeat apply Exists.intro); exact ⟨⟨i + 1, by omega, by go_num, (by obtain ⟨a', c', e'⟩ := ho1H.out.len; rw [i64s_len] at e'; exact ⟨a', c', e'⟩), ho1H, hB1⟩, rfl⟩)
        case measure => simp [intOf]; omega
      | false =>
        have hM := Lib.hid hsu.out
        rw [hst, if_neg (by decide), List.append_nil] at hM
        go_wp2_with fail
        go_roundw
        case rel => first | exact ⟨i + 1, by omega, by go_num, ⟨_, _, by rw [hM.out]⟩, by rw [hM.out]; exact ho, hBH⟩ | ((repeat apply Exists.intro); exact ⟨⟨i + 1, by omega, by go_num, ⟨_, _, by rw [hM.out]⟩, by rw [hM.out]; exact ho, hBH⟩, rfl⟩)
        case measure => simp [intOf]; omega
    · obtain rfl : i = s.size := by omega
      go_wp2_with fail
      go_ret2
      exact ⟨_, rfl, ho.out.ints, hBH.out⟩
theorem docAll_no (s : ByteArray) (W : World) :
    Calls Tryd.prog 54 #[.string s, .string ⟨#[]⟩] W (DQ [] 1 W) := by
  go_enter Tryd.func54, Tryd.ntmps54
  go_wp2_with fail
  go_ret2
  exact ⟨_, rfl, ints_nil _, Below.refl _ _⟩
theorem docAll_any (s p : ByteArray) (hs : s.size ≤ 1000) (hp : p.size ≤ 1000) (W : World) :
    Calls Tryd.prog 54 #[.string s, .string p] W (DQ (fl s p) (fc p) W) := by
  unfold fl fc
  by_cases h : p.size = 0
  · rw [if_pos h, if_pos h, empty_of p h]
    exact docAll_no s W
  · rw [if_neg h, if_neg h]
    exact docAll_yes s p hs (by omega) hp W
end Go.Proofs.YtifnochpmlllgaaDoor.All
