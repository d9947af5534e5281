/-
  PROVED HERE: what pieces tell, in plain Lean; nothing of the Go text. Conditions: as each theorem states.
-/
import Derived.Test.YtnbpninnanjemaaDoorLzA
namespace Go.Proofs.YtnbpninnanjemaaDoor.Lz
open Go.RowKit
/-- n bytes more, each the one that stands so far back. -/
def cp (back : Nat) : Nat → ByteArray → ByteArray
  | 0, o => o
  | n + 1, o => cp back n (o ++ o.extract (o.size - back) (o.size - back + 1))
def up (p : ByteArray) (i : Nat) (o : ByteArray) : Nat × ByteArray :=
  if i < p.size then
    if (ub p i).toNat < 128 then
      if p.size < i + (ub p i).toNat + 2 then (3, ⟨#[]⟩)
      else if 4000 < (o ++ p.extract (i + 1) (i + (ub p i).toNat + 2)).size then (4, ⟨#[]⟩)
      else up p (i + (ub p i).toNat + 2) (o ++ p.extract (i + 1) (i + (ub p i).toNat + 2))
    else if p.size < i + 3 then (3, ⟨#[]⟩)
    else if (ub p (i + 1)).toNat * 256 + (ub p (i + 2)).toNat = 0 ∨ 1023 < (ub p (i + 1)).toNat * 256 + (ub p (i + 2)).toNat ∨ o.size < (ub p (i + 1)).toNat * 256 + (ub p (i + 2)).toNat then (3, ⟨#[]⟩)
    else if 4000 < (cp ((ub p (i + 1)).toNat * 256 + (ub p (i + 2)).toNat) ((ub p i).toNat - 125) o).size then (4, ⟨#[]⟩)
    else up p (i + 3) (cp ((ub p (i + 1)).toNat * 256 + (ub p (i + 2)).toNat) ((ub p i).toNat - 125) o)
  else (0, o)
termination_by p.size - i
theorem up_end {p : ByteArray} {i : Nat} (h : p.size ≤ i) (o : ByteArray) : up p i o = (0, o) := by rw [up, if_neg (by omega)]
theorem up_short {p : ByteArray} {i c : Nat} (h : i < p.size) (hc : (ub p i).toNat = c) (h1 : c < 128) (h2 : p.size < i + c + 2) (o : ByteArray) : up p i o = (3, ⟨#[]⟩) := by
  subst hc; rw [up, if_pos h, if_pos h1, if_pos h2]
theorem up_full {p : ByteArray} {i c : Nat} (h : i < p.size) (hc : (ub p i).toNat = c) (h1 : c < 128) (h2 : i + c + 2 ≤ p.size) (o : ByteArray) (h3 : 4000 < (o ++ p.extract (i + 1) (i + c + 2)).size) : up p i o = (4, ⟨#[]⟩) := by
  subst hc; rw [up, if_pos h, if_pos h1, if_neg (by omega), if_pos h3]
theorem up_lit {p : ByteArray} {i c : Nat} (h : i < p.size) (hc : (ub p i).toNat = c) (h1 : c < 128) (h2 : i + c + 2 ≤ p.size) (o : ByteArray) (h3 : (o ++ p.extract (i + 1) (i + c + 2)).size ≤ 4000) : up p i o = up p (i + c + 2) (o ++ p.extract (i + 1) (i + c + 2)) := by
  subst hc; rw [up, if_pos h, if_pos h1, if_neg (by omega), if_neg (by omega)]
theorem up_short2 {p : ByteArray} {i c : Nat} (h : i < p.size) (hc : (ub p i).toNat = c) (h1 : 128 ≤ c) (h2 : p.size < i + 3) (o : ByteArray) : up p i o = (3, ⟨#[]⟩) := by
  subst hc; rw [up, if_pos h, if_neg (by omega), if_pos h2]
theorem up_none {p : ByteArray} {i c b : Nat} (h : i < p.size) (hc : (ub p i).toNat = c) (h1 : 128 ≤ c) (h2 : i + 3 ≤ p.size) (hb : (ub p (i + 1)).toNat * 256 + (ub p (i + 2)).toNat = b) (o : ByteArray) (h3 : b = 0 ∨ 1023 < b ∨ o.size < b) : up p i o = (3, ⟨#[]⟩) := by
  subst hc; subst hb; rw [up, if_pos h, if_neg (by omega), if_neg (by omega), if_pos h3]
theorem up_full2 {p : ByteArray} {i c b : Nat} (h : i < p.size) (hc : (ub p i).toNat = c) (h1 : 128 ≤ c) (h2 : i + 3 ≤ p.size) (hb : (ub p (i + 1)).toNat * 256 + (ub p (i + 2)).toNat = b) (o : ByteArray) (h3 : ¬ (b = 0 ∨ 1023 < b ∨ o.size < b)) (h4 : 4000 < (cp b (c - 125) o).size) : up p i o = (4, ⟨#[]⟩) := by
  subst hc; subst hb; rw [up, if_pos h, if_neg (by omega), if_neg (by omega), if_neg h3, if_pos h4]
theorem up_back {p : ByteArray} {i c b : Nat} (h : i < p.size) (hc : (ub p i).toNat = c) (h1 : 128 ≤ c) (h2 : i + 3 ≤ p.size) (hb : (ub p (i + 1)).toNat * 256 + (ub p (i + 2)).toNat = b) (o : ByteArray) (h3 : ¬ (b = 0 ∨ 1023 < b ∨ o.size < b)) (h4 : (cp b (c - 125) o).size ≤ 4000) : up p i o = up p (i + 3) (cp b (c - 125) o) := by
  subst hc; subst hb; rw [up, if_pos h, if_neg (by omega), if_neg (by omega), if_neg h3, if_neg (by omega)]
theorem ub_lt (p : ByteArray) (i : Nat) : (ub p i).toNat < 256 := UInt8.toNat_lt _
theorem lst_one (o : ByteArray) (k : Nat) (h : k < o.size) : (o.extract k (k + 1)).data.toList = [ub o k] := by
  have hl : k < o.data.toList.length := h
  have h2 : k < o.data.size := h
  rw [ByteArray.data_extract, Array.toList_extract, List.extract_eq_take_drop, show k + 1 - k = 1 by omega, List.drop_eq_getElem_cons hl]
  simp only [ub, List.take_succ_cons, List.take_zero, Array.getElem_toList]
  rw [Array.getElem?_eq_getElem h2]
  rfl
theorem lst_app (a b : ByteArray) : (a ++ b).data.toList = a.data.toList ++ b.data.toList := by rw [ByteArray.data_append, Array.toList_append]
theorem ex_ex (p : ByteArray) (i a b : Nat) (hab : a ≤ b) (hb : i + b ≤ p.size) : (p.extract i p.size).extract a b = p.extract (i + a) (i + b) := by
  apply ByteArray.ext
  apply Array.ext'
  simp only [ByteArray.data_extract, Array.toList_extract, List.extract_eq_take_drop]
  rw [List.drop_take, List.drop_drop, List.take_take]
  congr 1
  have : p.data.toList.length = p.size := rfl
  omega
theorem ex_rest (p : ByteArray) (i a : Nat) (h : i + a ≤ p.size) : (p.extract i p.size).extract a (p.size - i) = p.extract (i + a) p.size := by
  rw [ex_ex p i a (p.size - i) (by omega) (by omega)]
  congr 1
  omega
theorem ub_ex (p : ByteArray) (i a : Nat) (h : i + a < p.size) : ub (p.extract i p.size) a = ub p (i + a) := by
  unfold ub
  have e : p.data.size = p.size := rfl
  rw [ByteArray.data_extract]
  congr 1
  rw [Array.getElem?_extract]
  rw [if_pos (by omega)]
end Go.Proofs.YtnbpninnanjemaaDoor.Lz
