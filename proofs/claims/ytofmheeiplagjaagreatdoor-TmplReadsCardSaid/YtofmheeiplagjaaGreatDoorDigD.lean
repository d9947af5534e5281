/-
  PROVED HERE: the contract of slices.Reverse over bytes of the call's own; contracts of digits.Print and of the document's DigitsPrint; contracts of the document's DigitsPrint, and of both where they refuse. Conditions: as each theorem states.
-/
import Derived.Test.YtofmheeiplagjaaGreatDoorRows
import Derived.Test.YtofmheeiplagjaaGreatDoorOwn
import Derived.RegionTactic
import Derived.ChangeAlike
import Derived.Test.YtofmheeiplagjaaGreatDoorRef
import Derived.Test.YtofmheeiplagjaaGreatDoorDigA
import Derived.Test.YtofmheeiplagjaaGreatDoorErrB
namespace Go.Proofs.YtofmheeiplagjaaGreatDoor.Dig
open Go.RowKit

/-- The list behind k swaps. -/
def rk (l : List UInt8) (k : Nat) : List UInt8 := (List.range l.length).map fun j => if j < k ∨ l.length ≤ j + k then l.getD (l.length - 1 - j) 0 else l.getD j 0
theorem rk_len (l : List UInt8) (k : Nat) : (rk l k).length = l.length := by simp [rk]
theorem rk_get (l : List UInt8) (k j : Nat) (h : j < l.length) : (rk l k).getD j 0 = if j < k ∨ l.length ≤ j + k then l.getD (l.length - 1 - j) 0 else l.getD j 0 := by
  simp [rk, List.getD_eq_getElem?_getD, h]
theorem rk_zero (l : List UInt8) : rk l 0 = l := by
  apply List.ext_getElem
  · simp [rk]
  · intro i h1 h2
    simp only [rk, List.getElem_map, List.getElem_range]
    rw [if_neg (by omega)]
    simp [List.getD_eq_getElem?_getD, h2]
theorem rk_all (l : List UInt8) (k m : Nat) (h : k + m + 1 = l.length) (hm : m ≤ k) : rk l k = l.reverse := by
  apply List.ext_getElem
  · simp [rk]
  · intro i h1 h2
    have hi : i < l.length := by simpa [rk] using h1
    simp only [rk, List.getElem_map, List.getElem_range, List.getElem_reverse]
    by_cases c : i < k ∨ l.length ≤ i + k
    · rw [if_pos c]
      simp [List.getD_eq_getElem?_getD, show l.length - 1 - i < l.length by omega]
    · rw [if_neg c]
      have : l.length - 1 - i = i := by omega
      simp [List.getD_eq_getElem?_getD, hi, this]
theorem rk_succ (l : List UInt8) (k m : Nat) (a b : UInt8) (h : k + m + 1 = l.length) (hm : k < m) (ha : (rk l k).getD k 0 = a) (hb : (rk l k).getD m 0 = b) : ((rk l k).set k b).set m a = rk l (k + 1) := by
  rw [rk_get l k k (by omega)] at ha
  rw [rk_get l k m (by omega)] at hb
  subst ha hb
  apply List.ext_getElem
  · simp [rk]
  · intro i h1 h2
    have hi : i < l.length := by simpa [rk] using h2
    rw [List.getElem_set, List.getElem_set]
    simp only [rk, List.getElem_map, List.getElem_range]
    by_cases e1 : m = i
    · subst e1
      rw [if_pos rfl, if_neg (by omega), if_pos (by omega), show l.length - 1 - m = k by omega]
    · rw [if_neg e1]
      by_cases e2 : k = i
      · subst e2
        rw [if_pos rfl, if_neg (by omega), if_pos (by omega), show l.length - 1 - k = m by omega]
      · rw [if_neg e2]
        by_cases e3 : i < k ∨ l.length ≤ i + k
        · rw [if_pos e3, if_pos (by omega)]
        · rw [if_neg e3, if_neg (by omega)]

set_option maxHeartbeats 800000 in
theorem reverse_any (v : Value) (l : List UInt8) (B : Nat) (W : World) (ho : Own W B 5 v (u8s l)) (hl : l.length ≤ 1000000) :
    Calls Tryz.prog 58 #[v] W fun e w' => e = .returned (.tuple #[]) ∧ Own w' B 5 v (u8s l.reverse) ∧ Below B W w' := by
  rcases ho.form with ⟨rfl, h0⟩ | ⟨g, cap, rfl, hg, _, _, _⟩
  · have hl0 : l = [] := by cases l with
      | nil => rfl
      | cons _ _ => simp [u8s] at h0
    subst hl0
    go_enter Tryz.func58, Tryz.ntmps58
    go_wp2_with fail
    refine wp_loop_rounds 1 ?_
    rw [rounds_succ]
    go_wp2_with fail
    go_end0
    exact ⟨rfl, own_nil _ _ _, Below.refl _ _⟩
  · rw [u8s_len] at ho ⊢
    by_cases hn : l.length = 0
    · have hl0 : l = [] := List.eq_nil_of_length_eq_zero hn
      subst hl0
      have hoH := Lib.hid ho
      clear ho hn
      go_enter Tryz.func58, Tryz.ntmps58
      go_wp2_with fail
      refine wp_loop_rounds 1 ?_
      rw [rounds_succ]
      go_wp2_with fail
      go_end0
      exact ⟨rfl, hoH.out, Below.refl _ _⟩
    obtain ⟨n1, hn1⟩ : ∃ n1 : Nat, l.length = n1 + 1 := ⟨l.length - 1, by omega⟩
    have hoH := Lib.hid ho
    have hnH := Lib.hid hn1
    have hr0 := Lib.hid (rk_zero l)
    clear ho hn
    go_enter Tryz.func58, Tryz.ntmps58
    go_wp2_with fail
    go_loopw [2, 3] (fun i j wr => ∃ k m : Nat, i = .int .i64 k ∧ j = .int .i64 m ∧ Hid (k + m + 1 = l.length) ∧ k ≤ m + 1 ∧ m ≤ n1 ∧ Hid (Own wr B 5 (.slice (some ⟨g, 0, none⟩) l.length cap) (u8s (rk l k))) ∧ Below B W wr) (fun i j _ => (intOf j + 1 - intOf i).toNat)
    case atStart => exact ⟨0, n1, rfl, rfl, Lib.hid (by omega), by omega, by omega, Lib.hid (by rw [rk_zero]; exact hoH.out), Below.refl _ _⟩
    case round =>
      obtain ⟨k, m, rfl, rfl, hkm, h1, h1', hown, hB⟩ := hrel
      have hBH := Lib.hid hB
      clear hB
      by_cases hlt : k < m
      · have hkl : k < l.length := by have := hkm.out; omega
        have hml : m < l.length := by have := hkm.out; omega
        rcases hown.out.form with ⟨h', _⟩ | ⟨g', cap', h', _, _, hc, hf⟩
        · cases h'
        simp only [Value.slice.injEq, Option.some.injEq, Addr.mk.injEq, and_true] at h'
        obtain ⟨rfl, _, rfl⟩ := h'
        have hk1 := hc k (by rw [u8s_len, rk_len]; exact hkl)
        have hm1 := hc m (by rw [u8s_len, rk_len]; exact hml)
        rw [u8s_get] at hk1 hm1
        have fk := hf k
        have fm := hf m
        have SW := Lib.hid (rk_succ l k m _ _ hkm.out hlt rfl rfl)
        generalize (rk l k).getD k 0 = a at *
        generalize (rk l k).getD m 0 = b at *
        have ne : k ≠ m := by omega
        have i1 : (0 : Int) ≤ (k : Int) := by omega
        have i2 : (k : Int) < (l.length : Int) := by omega
        have i3 : (0 : Int) ≤ (m : Int) := by omega
        have i4 : (m : Int) < (l.length : Int) := by omega
        clear hc hf
        go_wp2_with fail
        go_region
        all_goals
          go_wp2_with fail
          go_roundw
          case rel =>
            refine ⟨k + 1, m - 1, by go_num, congrArg (Value.int .i64) (by omega), Lib.hid (by have := hkm.out; omega), by omega, by omega, Lib.hid ?_, (((hBH.out).setCell (p := ⟨g, k, none⟩) hg _).setCell (p := ⟨g, m, none⟩) hg _).drew⟩
            have h2 := ((hown.out).set k (.int .u8 (b.toNat : Int))).set m (.int .u8 (a.toNat : Int))
            rw [u8s_set, u8s_set, SW.out] at h2
            exact h2.drew
          case measure => simp [intOf]; omega
      · go_wp2_with fail
        go_end0
        refine ⟨rfl, ?_, hBH.out⟩
        rw [← rk_all l k m hkm.out (by omega)]
        exact hown.out
end Go.Proofs.YtofmheeiplagjaaGreatDoor.Dig
namespace Go.Proofs.YtofmheeiplagjaaGreatDoor.Dig
open Go.RowKit

/-- A digit's figure. -/
def fig (d : Nat) : UInt8 := if d < 10 then UInt8.ofNat (48 + d) else UInt8.ofNat (87 + d)
/-- The figures of a number, the least first. -/
def le (n b k : Nat) : List UInt8 := (List.range k).map fun i => fig (n / b ^ i % b)
theorem le_len (n b k : Nat) : (le n b k).length = k := by simp [le]
theorem le_succ (n b k : Nat) : le n b (k + 1) = le n b k ++ [fig (n / b ^ k % b)] := by simp [le, List.range_succ]
/-- How many figures: as many as are wanted, one at least, and as many as the number has. -/
def enough (n b w k : Nat) : Bool := decide (1 ≤ k ∧ w ≤ k ∧ n / b ^ k = 0)
def cnt (n b w : Nat) : Nat := ((List.range 65).find? (enough n b w)).getD 64
theorem find_least (p : Nat → Bool) (N k : Nat) (hk : k < N) (hp : p k = true) (hl : ∀ i, i < k → p i = false) : (List.range N).find? p = some k := by
  rw [List.find?_eq_some_iff_append]
  refine ⟨hp, List.range k, (List.range (N - k - 1)).map (· + (k + 1)), ?_, fun a ha => by simp [hl a (List.mem_range.1 ha)]⟩
  apply List.ext_getElem
  · simp; omega
  · intro i h1 h2
    rw [List.getElem_range]
    by_cases c : i < k
    · rw [List.getElem_append_left (by simpa using c)]; simp
    · rw [List.getElem_append_right (by simpa using Nat.le_of_not_lt c)]
      by_cases e : i = k
      · subst e; simp
      · have : i - (List.range k).length = (i - k - 1) + 1 := by simp; omega
        simp only [this, List.getElem_cons_succ, List.getElem_map, List.getElem_range]
        omega
theorem cnt_is (n b w k : Nat) (hk : k ≤ 64) (hp : enough n b w k = true) (hl : ∀ i, i < k → enough n b w i = false) : cnt n b w = k := by
  unfold cnt; rw [find_least _ 65 k (by omega) hp hl]; rfl

theorem figures_at : ∀ d : Fin 16, (⟨#[48, 49, 50, 51, 52, 53, 54, 55, 56, 57, 97, 98, 99, 100, 101, 102]⟩ : ByteArray)[d.val]'(d.isLt) = fig d.val := by decide +kernel

theorem fig_index (d : Nat) (h : d < 16) : (⟨#[48, 49, 50, 51, 52, 53, 54, 55, 56, 57, 97, 98, 99, 100, 101, 102]⟩ : ByteArray)[d]'h = fig d := figures_at ⟨d, h⟩
set_option maxRecDepth 100000 in
set_option maxHeartbeats 800000 in
theorem print_yes (x b w : Nat) (hx : x < 18446744073709551616) (hb : 2 ≤ b ∧ b ≤ 16) (hw : w ≤ 64) (W : World) :
    Calls Tryz.prog 35 #[.int .u64 x, .int .i64 b, .int .i64 w] W fun e w' => e = .returned (.tuple #[.string ⟨(le x b (cnt x b w)).reverse.toArray⟩, .nilIface]) ∧ Below W.heap.size W w' := by
  obtain ⟨hb1, hb2⟩ := hb
  go_enter Tryz.func35, Tryz.ntmps35
  go_wp2_with fail
  go_loopw [0, 8] (fun n v wr => ∃ k q : Nat, k ≤ 64 ∧ n = .int .u64 q ∧ (∃ a cap, v = .slice a k cap) ∧ Hid (q = x / b ^ k) ∧ Hid (Own wr W.heap.size 5 v (u8s (le x b k))) ∧ Below W.heap.size W wr ∧ Hid (∀ i, i < k → enough x b w i = false)) (fun _ v _ => match v with | .slice _ n _ => 65 - n | _ => 0)
  case atStart => exact ⟨0, x, by omega, rfl, ⟨_, _, rfl⟩, Lib.hid (by simp), Lib.hid (own_nil _ _ _), Below.refl _ _, Lib.hid (fun i hi => by omega)⟩
  case round =>
    obtain ⟨k, q, hk, rfl, ⟨a, cap, rfl⟩, hq, ho, hB, hl⟩ := hrel
    have hBH := Lib.hid hB
    clear hB
    have hq64 : q < 18446744073709551616 := Nat.lt_of_le_of_lt (by rw [hq.out]; exact Nat.div_le_self _ _) hx
    have hdig := Lib.hid (fig_index (q % b) (Nat.lt_of_lt_of_le (Nat.mod_lt _ (by omega)) hb2))
    have hd : q % b < 16 := Nat.lt_of_lt_of_le (Nat.mod_lt _ (by omega)) hb2
    have i1 : (0 : Int) ≤ (q : Int) % (b : Int) := by rw [← Int.natCast_emod]; omega
    have i2 : (q : Int) % (b : Int) < 16 := by rw [← Int.natCast_emod]; omega
    have i3 : (0 : Int) ≤ (q : Int) / (b : Int) := by rw [← Int.natCast_ediv]; exact Int.natCast_nonneg _
    have i4 : (q : Int) / (b : Int) < 18446744073709551616 := by
      rw [← Int.natCast_ediv]
      exact Int.ofNat_lt.2 (Nat.lt_of_le_of_lt (Nat.div_le_self q b) hq64)
    have hk64 : 0 < q → k < 64 := fun h => by
      rcases Nat.lt_or_ge k 64 with h1 | h1
      · exact h1
      · have h2 : b ^ 64 ≤ b ^ k := Nat.pow_le_pow_right (by omega) h1
        have h3 : 2 ^ 64 ≤ b ^ 64 := Nat.pow_le_pow_left hb1 64
        have h4 : x < b ^ k := by omega
        have h5 := hq.out
        rw [Nat.div_eq_of_lt h4] at h5
        omega
    have hcase : (0 < q ∨ (q ≤ 0 ∧ k < w) ∨ (q ≤ 0 ∧ w ≤ k ∧ ((k : Int) == 0) = true)) ∨ (q ≤ 0 ∧ w ≤ k ∧ ((k : Int) == 0) = false) := by
      rw [beq_iff_eq, beq_eq_false_iff_ne]; omega
    rcases hcase with hgo | ⟨c1, c2, c3⟩
    · have hkk : k < 64 := by
        rw [beq_iff_eq] at hgo
        omega
      have hen : enough x b w k = false := by
        unfold enough
        rw [decide_eq_false_iff_not, ← hq.out]
        rw [beq_iff_eq] at hgo
        omega
      have henH := Lib.hid hen
      clear hen
      rcases hgo with c1 | ⟨c1, c2⟩ | ⟨c1, c2, c3⟩
      all_goals
        go_wp2_with (at_builtin; refine own_append1 rfl _ _ 94 rfl W.heap.size 5 (.int .u8 0) 1 Tryz.underlying94 (by kernel_rfl) rfl _ _ rfl (ho.out.alloc _) _ 1 _ rfl (new_cell wr _ _) rfl (by rw [u8s_len, le_len]; omega) (by rw [u8s_len, le_len]; omega) (le_alloc hBH.out.size _) ?_; intro v1 w1 ho1 hg1 hb1 hat1)
        rw [hdig.out, u8s_snoc] at ho1
        go_roundw
        case rel =>
          refine ⟨k + 1, q / b, by omega, congrArg (Value.int .u64) (Int.natCast_ediv q b).symm, ?_, Lib.hid (by rw [hq.out, Nat.div_div_eq_div_mul, Nat.pow_succ]), Lib.hid (by rw [le_succ, ← hq.out]; exact ho1), below_append hBH.out _ hBH.out.size hb1, Lib.hid (fun i hi => ?_)⟩
          · obtain ⟨a', c', e'⟩ := ho1.len
            rw [u8s_len, List.length_append, le_len] at e'
            exact ⟨a', c', e'⟩
          · rcases Nat.lt_succ_iff_lt_or_eq.1 hi with h | rfl
            · exact hl.out i h
            · exact henH.out
        case measure =>
          obtain ⟨a', c', e'⟩ := ho1.len
          rw [u8s_len, List.length_append, le_len] at e'
          rw [e']
          simp
          omega
    · have hen : enough x b w k = true := by
        unfold enough
        rw [decide_eq_true_iff, ← hq.out]
        rw [beq_eq_false_iff_ne] at c3
        omega
      have hcnt := Lib.hid (cnt_is x b w k hk hen hl.out)
      clear hen
      have hlen := le_len x b k
      clear i1 i2 i3 i4
      go_wp2_with fail
      refine (reverse_any _ _ _ _ ho.out (by omega)).mono ?_; rintro e w1 ⟨rfl, ho1, hb1⟩
      have hb1H := Lib.hid hb1
      have hstr := own_string (P := Tryz.prog) (T := 94) (S := 9) ho1 Tryz.underlying94 Tryz.underlying5 Tryz.underlying9
      clear hb1 ho1
      go_wp2_with fail
      go_ret2
      exact ⟨by rw [hcnt.out]; simp, hBH.out.trans hb1H.out⟩
end Go.Proofs.YtofmheeiplagjaaGreatDoor.Dig
namespace Go.Proofs.YtofmheeiplagjaaGreatDoor.Dig
open Go.RowKit

/-- The figures of a number as a text. -/
def sle (n b k : Nat) : ByteArray := ⟨(le n b k).reverse.toArray⟩
theorem sle_size (n b k : Nat) : (sle n b k).size = k := by
  show (le n b k).reverse.toArray.size = k
  simp [le_len]
theorem sle_zero (n b : Nat) : sle n b 0 = ⟨#[]⟩ := by simp [sle, le]
theorem sle_succ (n b k : Nat) : sle n b (k + 1) = ⟨#[fig (n / b ^ k % b)]⟩ ++ sle n b k := by
  apply ByteArray.ext
  simp [sle, le_succ, ByteArray.data_append]
theorem fig_slice : ∀ d : Fin 16, ((⟨#[48, 49, 50, 51, 52, 53, 54, 55, 56, 57, 97, 98, 99, 100, 101, 102]⟩ : ByteArray).extract d.val 16).extract 0 1 = ⟨#[fig d.val]⟩ := by decide +kernel

set_option maxRecDepth 100000 in
set_option maxHeartbeats 800000 in
theorem docPrint_yes (x b w : Nat) (hx : x < 18446744073709551616) (hb : 2 ≤ b ∧ b ≤ 16) (hw : w ≤ 64) (W : World) :
    Calls Tryz.prog 38 #[.int .u64 x, .int .i64 b, .int .i64 w] W fun e w' => e = .returned (.tuple #[.string (sle x b (cnt x b w)), .int .i64 0]) ∧ Below W.heap.size W w' := by
  obtain ⟨hb1, hb2⟩ := hb
  go_enter Tryz.func38, Tryz.ntmps38
  go_wp2_with fail
  refine (Ref.within_yes _ _ _ (by omega) (by omega) _).mono ?_; rintro e w' ⟨rfl, rfl⟩
  go_wp2_with fail
  refine (Ref.within_yes _ _ _ (by omega) (by omega) _).mono ?_; rintro e w' ⟨rfl, rfl⟩
  go_wp2_with fail
  go_loop [0, 8] (fun n v => ∃ k q : Nat, k ≤ 64 ∧ n = .int .u64 q ∧ v = .string (sle x b k) ∧ Hid (q = x / b ^ k) ∧ Hid (∀ i, i < k → enough x b 0 i = false)) (fun _ v => match v with | .string s => 65 - s.size | _ => 0)
  case atStart => exact ⟨0, x, by omega, rfl, by rw [sle_zero], Lib.hid (by simp), Lib.hid (fun i hi => by omega)⟩
  case round =>
    obtain ⟨k, q, hk, rfl, rfl, hq, hl⟩ := hrel
    have hq64 : q < 18446744073709551616 := Nat.lt_of_le_of_lt (by rw [hq.out]; exact Nat.div_le_self _ _) hx
    have hd : q % b < 16 := Nat.lt_of_lt_of_le (Nat.mod_lt _ (by omega)) hb2
    have hdig := Lib.hid (fig_slice ⟨q % b, hd⟩)
    have hsz := sle_size x b k
    have hsz2 : (sle x b k).size ≤ 64 := by omega
    have hszH := Lib.hid hsz
    have hsu := Lib.hid (sle_succ x b k)
    clear hsz
    have i1 : (0 : Int) ≤ (q : Int) % (b : Int) := by rw [← Int.natCast_emod]; omega
    have i2 : (q : Int) % (b : Int) < 16 := by rw [← Int.natCast_emod]; omega
    have i3 : (0 : Int) ≤ (q : Int) / (b : Int) := by rw [← Int.natCast_ediv]; exact Int.natCast_nonneg _
    have i4 : (q : Int) / (b : Int) < 18446744073709551616 := by
      rw [← Int.natCast_ediv]
      exact Int.ofNat_lt.2 (Nat.lt_of_le_of_lt (Nat.div_le_self q b) hq64)
    have hk64 : 0 < q → k < 64 := fun h => by
      rcases Nat.lt_or_ge k 64 with h1 | h1
      · exact h1
      · have h2 : b ^ 64 ≤ b ^ k := Nat.pow_le_pow_right (by omega) h1
        have h3 : 2 ^ 64 ≤ b ^ 64 := Nat.pow_le_pow_left hb1 64
        have h4 : x < b ^ k := by omega
        have h5 := hq.out
        rw [Nat.div_eq_of_lt h4] at h5
        omega
    rcases (show (0 < q ∨ (q ≤ 0 ∧ k = 0)) ∨ (q ≤ 0 ∧ 1 ≤ k) by omega) with hgo | ⟨c1, c2⟩
    · have hkk : k < 64 := by omega
      have henH : Hid (enough x b 0 k = false) := by
        refine Lib.hid ?_
        unfold enough
        rw [decide_eq_false_iff_not, ← hq.out]
        omega
      rcases hgo with c1 | ⟨c1, rfl⟩
      · go_wp2_with fail
        rw [hdig.out]
        go_round
        case rel =>
          refine ⟨k + 1, q / b, by omega, congrArg (Value.int .u64) (Int.natCast_ediv q b).symm, by rw [hsu.out, ← hq.out], Lib.hid (by rw [hq.out, Nat.div_div_eq_div_mul, Nat.pow_succ]), Lib.hid (fun i hi => ?_)⟩
          rcases Nat.lt_succ_iff_lt_or_eq.1 hi with h | rfl
          · exact hl.out i h
          · exact henH.out
        case measure =>
          rw [show (⟨#[fig (q % b)]⟩ ++ sle x b k : ByteArray) = sle x b (k + 1) by rw [hsu.out, ← hq.out]]
          simp only [sle_size]
          omega
      · rw [sle_zero]
        go_wp2_with fail
        rw [hdig.out]
        go_round
        case rel =>
          refine ⟨1, q / b, by omega, congrArg (Value.int .u64) (Int.natCast_ediv q b).symm, by rw [hsu.out, ← hq.out, sle_zero], Lib.hid (by rw [hq.out, Nat.div_div_eq_div_mul]; simp), Lib.hid (fun i hi => ?_)⟩
          obtain rfl : i = 0 := by omega
          exact henH.out
        case measure =>
          simp only [ByteArray.size_append]
          have e2 : (⟨#[fig (q % b)]⟩ : ByteArray).size = 1 := rfl
          have e3 : (⟨#[]⟩ : ByteArray).size = 0 := rfl
          omega
    · have e1 := str_full (sle x b k) (by rw [hszH.out]; exact c2)
      clear i1 i2 i3 i4
      go_wp2_with fail
      go_loop [8] (fun v => ∃ j : Nat, j ≤ 64 ∧ v = .string (sle x b j) ∧ k ≤ j ∧ Hid (k = j ∨ j ≤ w)) (fun v => match v with | .string s => 65 - s.size | _ => 0)
      case atStart => exact ⟨k, hk, rfl, Nat.le_refl _, Lib.hid (.inl rfl)⟩
      case round =>
        obtain ⟨j, hj, rfl, hkj, hjw⟩ := hrel
        have hjz : (sle x b j).size ≤ 64 := by rw [sle_size]; exact hj
        have hjH := Lib.hid (sle_size x b j)
        have hju := Lib.hid (sle_succ x b j)
        clear hsz2
        have hz0 : Hid (x / b ^ j = 0) := Lib.hid (by
          have h1 : b ^ k ≤ b ^ j := Nat.pow_le_pow_right (by omega) hkj
          have h5 := hq.out
          have h2 : x < b ^ k := by
            have h3 : 0 < b ^ k := Nat.pow_pos (by omega)
            rw [show q = 0 by omega] at h5
            rcases Nat.lt_or_ge x (b ^ k) with h | h
            · exact h
            · have := Nat.div_pos h h3
              omega
          exact Nat.div_eq_of_lt (by omega))
        by_cases c3 : (sle x b j).size < w
        · have hjl : j < w := by rw [hjH.out] at c3; exact c3
          go_wp2_with fail
          go_round
          case rel => exact ⟨j + 1, by omega, by rw [hju.out, hz0.out, Nat.zero_mod]; rfl, by omega, Lib.hid (by omega)⟩
          case measure =>
            simp only [ByteArray.size_append, hjH.out]
            have : (⟨#[48]⟩ : ByteArray).size = 1 := rfl
            omega
        · have hwj : w ≤ j := by rw [hjH.out] at c3; omega
          have hcnt : Hid (cnt x b w = j) := Lib.hid (cnt_is x b w j hj (by unfold enough; rw [decide_eq_true_iff, hz0.out]; omega) (fun i hi => by
            rcases Nat.lt_or_ge i k with h | h
            · have := hl.out i h
              unfold enough at this ⊢
              rw [decide_eq_false_iff_not] at this ⊢
              omega
            · unfold enough
              rw [decide_eq_false_iff_not]
              have := hjw.out
              omega))
          go_wp2_with fail
          go_ret2
          exact ⟨by rw [hcnt.out]; rfl, Below.refl _ _⟩
theorem print_arg (x b w : Int) (h : b < 2 ∨ 16 < b) (W : World) :
    Calls Tryz.prog 35 #[.int .u64 x, .int .i64 b, .int .i64 w] W fun e w' => e = .returned (.tuple #[.string ⟨#[]⟩, .iface 25 (.int .i64 1)]) ∧ Below W.heap.size W w' := by
  rcases h with h | h
  · go_enter Tryz.func35, Tryz.ntmps35
    go_wp2_with fail
    go_ret2
    exact ⟨rfl, Below.refl _ _⟩
  · have h2 : ¬ b < 2 := by omega
    go_enter Tryz.func35, Tryz.ntmps35
    go_wp2_with fail
    go_ret2
    exact ⟨rfl, Below.refl _ _⟩
theorem print_range (x b w : Int) (h : 2 ≤ b ∧ b ≤ 16) (h2 : w < 0 ∨ 64 < w) (W : World) :
    Calls Tryz.prog 35 #[.int .u64 x, .int .i64 b, .int .i64 w] W fun e w' => e = .returned (.tuple #[.string ⟨#[]⟩, .iface 25 (.int .i64 2)]) ∧ Below W.heap.size W w' := by
  obtain ⟨b1, b2⟩ := h
  rcases h2 with h | h
  · go_enter Tryz.func35, Tryz.ntmps35
    go_wp2_with fail
    go_ret2
    exact ⟨rfl, Below.refl _ _⟩
  · have h2 : ¬ w < 0 := by omega
    go_enter Tryz.func35, Tryz.ntmps35
    go_wp2_with fail
    go_ret2
    exact ⟨rfl, Below.refl _ _⟩
theorem docPrint_arg (x b w : Int) (h : b < 2 ∨ 16 < b) (W : World) :
    Calls Tryz.prog 38 #[.int .u64 x, .int .i64 b, .int .i64 w] W fun e w' => e = .returned (.tuple #[.string ⟨#[]⟩, .int .i64 1]) ∧ Below W.heap.size W w' := by
  go_enter Tryz.func38, Tryz.ntmps38
  go_wp2_with fail
  refine (Ref.within_no _ _ _ h _).mono ?_; rintro e w' ⟨rfl, rfl⟩
  go_wp2_with fail
  go_ret2
  exact ⟨rfl, Below.refl _ _⟩
theorem docPrint_range (x b w : Int) (h : 2 ≤ b ∧ b ≤ 16) (h2 : w < 0 ∨ 64 < w) (W : World) :
    Calls Tryz.prog 38 #[.int .u64 x, .int .i64 b, .int .i64 w] W fun e w' => e = .returned (.tuple #[.string ⟨#[]⟩, .int .i64 2]) ∧ Below W.heap.size W w' := by
  go_enter Tryz.func38, Tryz.ntmps38
  go_wp2_with fail
  refine (Ref.within_yes _ _ _ h.1 h.2 _).mono ?_; rintro e w' ⟨rfl, rfl⟩
  go_wp2_with fail
  refine (Ref.within_no _ _ _ h2 _).mono ?_; rintro e w' ⟨rfl, rfl⟩
  go_wp2_with fail
  go_ret2
  exact ⟨rfl, Below.refl _ _⟩

end Go.Proofs.YtofmheeiplagjaaGreatDoor.Dig
