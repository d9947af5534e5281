/-
  PROVED HERE: the memory of lz.Pack: the map of places, two lists behind boxes. Conditions: as each theorem states.
-/
import Derived.Test.YtnbpninnanjemaaDoorLzW
import Derived.Test.YtnbpninnanjemaaDoorLzD
import Derived.Test.YtnbpninnanjemaaDoorTwo
import Derived.Maps.GroupsBeside
import Derived.Maps.Views
namespace Go.Proofs.YtnbpninnanjemaaDoor.Lz
open Go.RowKit Go.WideMaps Go.Maps Go.ChangeShapes
/-- Three bytes as a key. -/
def key (s : ByteArray) (n : Nat) : List UInt8 := (s.extract n (n + 3)).data.toList
theorem key_eq {s : ByteArray} {p q : Nat} (hp : p + 3 ≤ s.size) (hq : q + 3 ≤ s.size) : key s p = key s q ↔ tri s p q := by
  have e : ∀ a, a + 3 ≤ s.size → key s a = [ub s a, ub s (a + 1), ub s (a + 2)] := fun a ha => by
    unfold key
    have h0 : a < s.data.toList.length := by show a < s.size; omega
    have h1 : a + 1 < s.data.toList.length := by show a + 1 < s.size; omega
    have h2 : a + 2 < s.data.toList.length := by show a + 2 < s.size; omega
    rw [ByteArray.data_extract, Array.toList_extract, List.extract_eq_take_drop, show a + 3 - a = 3 by omega, List.drop_eq_getElem_cons h0, List.drop_eq_getElem_cons h1, List.drop_eq_getElem_cons h2]
    have u : ∀ k (h : k < s.data.toList.length), s.data.toList[k] = ub s k := fun k h => by
      have h' : k < s.data.size := h
      rw [Array.getElem_toList, ub, Array.getElem?_eq_getElem h']
      rfl
    simp [u]
  rw [e p hp, e q hq]
  unfold tri
  simp
def posI (s : ByteArray) (n q : Nat) : List Int := (pos s n q).map fun k : Nat => (k : Int)
theorem pos_succ (s : ByteArray) (n q : Nat) : pos s (n + 1) q = pos s n q ++ (if n + 3 ≤ s.size ∧ tri s n q then [n] else []) := by
  unfold pos
  rw [List.range_succ, List.filter_append]
  congr 1
  by_cases h : n + 3 ≤ s.size ∧ tri s n q <;> simp [h]
theorem tri_symm {s : ByteArray} {p q : Nat} (h : tri s p q) : tri s q p := ⟨h.1.symm, h.2.1.symm, h.2.2.symm⟩
theorem tri_trans {s : ByteArray} {p q r : Nat} (h : tri s p q) (h' : tri s q r) : tri s p r := ⟨h.1.trans h'.1, h.2.1.trans h'.2.1, h.2.2.trans h'.2.2⟩
theorem pos_tri {s : ByteArray} {n p q : Nat} (h : tri s p q) : pos s n p = pos s n q := by
  unfold pos
  refine List.filter_congr fun x _ => ?_
  rw [decide_eq_decide]
  exact and_congr_right fun _ => ⟨fun h1 => tri_trans h1 h, fun h1 => tri_trans h1 (tri_symm h)⟩
section
variable {H : Type}
/-- The map behind the first n places. -/
def G (s : ByteArray) : Nat → DataW H
  | 0 => .map []
  | n + 1 => if n + 3 ≤ s.size then (G s n).put (.string (key s n)) (.slice (lits .i64 (posI s (n + 1) n)) []) else G s n
theorem G_map (s : ByteArray) : ∀ n, IsMap (G (H := H) s n)
  | 0 => ⟨[], rfl⟩
  | n + 1 => by
    rw [G]
    split
    · exact (G_map s n).put _ _
    · exact G_map s n
theorem G_at (s : ByteArray) (q : Nat) (hq : q + 3 ≤ s.size) : ∀ n, (G (H := H) s n).atKey (.string (key s q)) .nil = if pos s n q = [] then .nil else .slice (lits .i64 (posI s n q)) []
  | 0 => by
    have : pos s 0 q = [] := rfl
    rw [this, if_pos rfl]
    rfl
  | n + 1 => by
    have ih := G_at s q hq n
    rw [G]
    by_cases hn : n + 3 ≤ s.size
    · rw [if_pos hn]
      by_cases ht : tri s n q
      · have hk : key s q = key s n := ((key_eq hn hq).2 ht).symm
        have hp : pos s (n + 1) n = pos s n q ++ [n] := by
          rw [pos_succ, if_pos ⟨hn, rfl, rfl, rfl⟩, pos_tri ht]
        have hp2 : pos s (n + 1) q = pos s n q ++ [n] := by rw [pos_succ, if_pos ⟨hn, ht⟩]
        rw [hk, atKey_put_same (G_map s n) (by trivial), if_neg (by rw [hp2]; simp)]
        unfold posI
        rw [hp, hp2]
      · have hk : (Lit.string (key s q)) ≠ .string (key s n) := fun h => ht ((key_eq hn hq).1 (by injection h with h; exact h.symm))
        have hp2 : pos s (n + 1) q = pos s n q := by rw [pos_succ, if_neg (fun h => ht h.2), List.append_nil]
        rw [atKey_put_other hk, ih]
        unfold posI
        rw [hp2]
    · have hp2 : pos s (n + 1) q = pos s n q := by rw [pos_succ, if_neg (fun h => hn h.1), List.append_nil]
      rw [if_neg hn, ih]
      unfold posI
      rw [hp2]
end
end Go.Proofs.YtnbpninnanjemaaDoor.Lz
