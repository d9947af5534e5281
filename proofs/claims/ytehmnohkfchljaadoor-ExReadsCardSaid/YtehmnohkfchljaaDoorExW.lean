/-
  PROVED HERE: the words of a text: what strings.FieldsFunc makes of it at the blank, and what is not empty of the pieces between blanks, are the same. Plain Lean. Conditions: as each theorem states.
-/
import Derived.Test.YtehmnohkfchljaaDoorMem
import Derived.Lib.SplitLaws
import Derived.Lib.CutLaws
import Derived.Lib.FieldsP
import Derived.Lib.IndexLaws
import Derived.Lib.TrimU
namespace Go.Proofs.YtehmnohkfchljaaDoor.Ex
/-- The blank; the pieces between blanks; the words. -/
def bl : ByteArray := ⟨#[32]⟩
def PW (s : ByteArray) : List ByteArray := Lib.splitB bl 0 (Lib.countB s bl) s
def wd (s : ByteArray) : List ByteArray := (PW s).filter fun w => decide (0 < w.size)
theorem PW_miss {s : ByteArray} (h : Lib.indexB s bl = -1) : PW s = [s] := by
  unfold PW
  rw [Lib.countB_miss s bl h]
  rfl
theorem PW_hit {s : ByteArray} {i : Nat} (h : Lib.indexB s bl = i) : PW s = s.extract 0 i :: PW (s.extract (i + 1) s.size) := by
  have hc := Lib.countB_hit s bl i (Nat.le_refl _) h
  unfold PW
  rw [hc, Nat.add_comm 1, Lib.splitB_hit bl 0 _ s i h]
  rfl
theorem get_byte (s : ByteArray) (k : Nat) : (s.get! k).toNat = byteAt s k := by
  unfold byteAt
  show (s.data[k]!).toNat = _
  rw [getElem!_def]
  cases s.data[k]? <;> rfl
theorem list_byte (s : ByteArray) (k : Nat) (h : k < s.size) (c : UInt8) : s.data.toList[k]? = some c ↔ byteAt s k = c.toNat := by
  have h' : k < s.data.size := h
  unfold byteAt
  rw [Array.getElem?_toList, Array.getElem?_eq_getElem h']
  simp only [Option.some.injEq, Option.getD_some]
  exact ⟨fun e => by rw [e], fun e => UInt8.toNat_inj.1 e⟩
theorem ext_byte (s : ByteArray) (a k : Nat) (h : a + k < s.size) : byteAt (s.extract a s.size) k = byteAt s (a + k) := byteAt_extract s a s.size k h (Nat.le_refl _)
theorem ext_ext (s : ByteArray) (a b c : Nat) (h : a + c ≤ s.size) : (s.extract a s.size).extract b c = s.extract (a + b) (a + c) := by
  apply ByteArray.ext
  have e : s.data.size = s.size := rfl
  simp only [ByteArray.data_extract, Array.extract_extract]
  congr 1
  omega
theorem ix (s : ByteArray) : Lib.indexB s bl = Lib.indexByte s.data.toList 32 := Lib.index_one _ _
/-- A piece ends at a blank. -/
theorem pw_stop (s : ByteArray) (a p : Nat) (ha : a ≤ p) (hp : p < s.size) (hb : byteAt s p = 32) (hn : ∀ j, a ≤ j → j < p → byteAt s j ≠ 32) : PW (s.extract a s.size) = s.extract a p :: PW (s.extract (p + 1) s.size) := by
  have hz : (s.extract a s.size).size = s.size - a := by rw [ByteArray.size_extract]; omega
  have hi : Lib.indexB (s.extract a s.size) bl = ((p - a : Nat) : Int) := by
    rcases Lib.indexB_cases (s.extract a s.size) bl with hm | ⟨i, hi, hbd⟩
    · rw [ix] at hm
      exact absurd ((list_byte _ _ (by rw [hz]; omega) 32).2 (by rw [ext_byte s a (p - a) (by omega), show a + (p - a) = p by omega, hb]; rfl)) (Lib.indexByte_none hm (p - a))
    · rw [hi]
      rw [ix] at hi
      have hbd' : i + 1 ≤ (s.extract a s.size).size := hbd
      obtain ⟨h1, h2⟩ := Lib.indexByte_some hi
      have h3 : byteAt s (a + i) = 32 := by
        rw [← ext_byte s a i (by omega)]
        exact (list_byte _ _ (by omega) 32).1 h1
      by_cases h4 : i < p - a
      · exact absurd h3 (hn (a + i) (by omega) (by omega))
      · by_cases h5 : p - a < i
        · exact absurd ((list_byte _ _ (by rw [hz]; omega) 32).2 (by rw [ext_byte s a (p - a) (by omega), show a + (p - a) = p by omega, hb]; rfl)) (h2 (p - a) h5)
        · congr 1; omega
  rw [PW_hit hi, hz, ext_ext s a 0 (p - a) (by omega), ext_ext s a (p - a + 1) (s.size - a) (by omega)]
  rw [show a + 0 = a by omega, show a + (p - a) = p by omega, show a + (p - a + 1) = p + 1 by omega, show a + (s.size - a) = s.size by omega]
/-- The last piece. -/
theorem pw_last (s : ByteArray) (a : Nat) (hn : ∀ j, a ≤ j → j < s.size → byteAt s j ≠ 32) : PW (s.extract a s.size) = [s.extract a s.size] := by
  have hz : (s.extract a s.size).size = s.size - a := by rw [ByteArray.size_extract]; omega
  rcases Lib.indexB_cases (s.extract a s.size) bl with hm | ⟨i, hi, hbd⟩
  · exact PW_miss hm
  · rw [ix] at hi
    have hbd' : i + 1 ≤ (s.extract a s.size).size := hbd
    obtain ⟨h1, _⟩ := Lib.indexByte_some hi
    have h3 : byteAt s (a + i) = 32 := by
      rw [← ext_byte s a i (by omega)]
      exact (list_byte _ _ (by omega) 32).1 h1
    exact absurd h3 (hn (a + i) (by omega) (by omega))
/-- A rune is a blank where a byte is one; within another rune none stands. -/
theorem dec_blank (n b1 b2 b3 : Nat) : Lib.decodeN n 32 b1 b2 b3 = (32, 1) := by unfold Lib.decodeN; rw [if_pos (by decide)]
set_option maxHeartbeats 1000000 in
theorem dec_other (n b0 b1 b2 b3 : Nat) (h : b0 ≠ 32) : (Lib.decodeN n b0 b1 b2 b3).1 ≠ 32 ∧ (Lib.decodeN n b0 b1 b2 b3).2 ≤ 4 ∧ (2 ≤ (Lib.decodeN n b0 b1 b2 b3).2 → b1 ≠ 32) ∧ (3 ≤ (Lib.decodeN n b0 b1 b2 b3).2 → b2 ≠ 32) ∧ (4 ≤ (Lib.decodeN n b0 b1 b2 b3).2 → b3 ≠ 32) := by
  unfold Lib.decodeN
  repeat' split
  all_goals simp only
  all_goals omega
def isBl : Nat → Bool := fun r => decide (r = 32)
theorem dec_at (s : ByteArray) (p : Nat) : Utf8.decode s p = Lib.decodeN (s.size - p) (byteAt s p) (byteAt s (p + 1)) (byteAt s (p + 2)) (byteAt s (p + 3)) := by
  rw [Lib.decode_at, get_byte, get_byte, get_byte, get_byte]
theorem ne_add {s : ByteArray} {a p K : Nat} (hn : ∀ j, a ≤ j → j < p → byteAt s j ≠ 32) (hK : K ≤ 4) (h0 : byteAt s p ≠ 32) (h1 : 2 ≤ K → byteAt s (p + 1) ≠ 32) (h2 : 3 ≤ K → byteAt s (p + 2) ≠ 32) (h3 : 4 ≤ K → byteAt s (p + 3) ≠ 32) : ∀ j, a ≤ j → j < p + K → byteAt s j ≠ 32 := fun j hj hk => by
  by_cases c : j < p
  · exact hn j hj c
  · rcases (show j = p ∨ j = p + 1 ∨ j = p + 2 ∨ j = p + 3 by omega) with rfl | rfl | rfl | rfl
    · exact h0
    · exact h1 (by omega)
    · exact h2 (by omega)
    · exact h3 (by omega)
theorem span_words (s : ByteArray) : ∀ (f p : Nat) (st : Option Nat) (acc : List (Nat × Nat)) (a : Nat), (st = none → a = p) → (∀ x, st = some x → a = x ∧ x < p) → p ≤ s.size → s.size ≤ p + f → (∀ j, a ≤ j → j < p → byteAt s j ≠ 32) →
    (Lib.closeSpans s (Lib.spansFromP isBl s f p st acc)).map (fun x => s.extract x.1 x.2) = acc.map (fun x => s.extract x.1 x.2) ++ wd (s.extract a s.size)
  | f, p, st, acc, a, h1, h2, hp, hf, hn => by
    by_cases hlt : p < s.size
    · obtain ⟨f, rfl⟩ : ∃ g, f = g + 1 := ⟨f - 1, by omega⟩
      have hK1 := Lib.width_pos s p
      have hKs : p + (Utf8.decode s p).2 ≤ s.size := by
        have := Lib.decodeN_le_n' (s.size - p) (s.get! p).toNat (s.get! (p + 1)).toNat (s.get! (p + 2)).toNat (s.get! (p + 3)).toNat (by omega)
        rw [← Lib.decode_at] at this
        omega
      simp only [Lib.spansFromP, hlt, if_true]
      by_cases hb : byteAt s p = 32
      · have hd : Utf8.decode s p = (32, 1) := by rw [dec_at, hb, dec_blank]
        have hr : isBl 32 = true := rfl
        rw [hd]
        simp only [hr, if_true]
        have ha : a ≤ p := by
          cases st with
          | none => exact Nat.le_of_eq (h1 rfl)
          | some x => have := h2 x rfl; omega
        have hw : wd (s.extract a s.size) = (if 0 < p - a then [s.extract a p] else []) ++ wd (s.extract (p + 1) s.size) := by
          unfold wd
          rw [pw_stop s a p ha hlt hb hn, List.filter_cons]
          have hz : (s.extract a p).size = p - a := by rw [ByteArray.size_extract]; omega
          rw [hz]
          by_cases c : 0 < p - a
          · simp [c]
          · rw [if_neg c, if_neg (by simpa using c)]
            rfl
        have IH := fun acc' => span_words s f (p + 1) none acc' (p + 1) (fun _ => rfl) (fun x h => by cases h) hlt (by omega) (fun j h3 h4 => by omega)
        cases st with
        | none =>
          obtain rfl := h1 rfl
          rw [hw, if_neg (by omega)]
          exact IH acc
        | some x =>
          obtain ⟨rfl, hx⟩ := h2 x rfl
          rw [hw, if_pos (by omega), IH, List.map_append, List.append_assoc]
          rfl
      · have hdo := dec_other (s.size - p) (byteAt s p) (byteAt s (p + 1)) (byteAt s (p + 2)) (byteAt s (p + 3)) hb
        rw [← dec_at] at hdo
        obtain ⟨g1, g2, g3, g4, g5⟩ := hdo
        have hr : isBl (Utf8.decode s p).1 = false := decide_eq_false g1
        rw [hr]
        simp only [Bool.false_eq_true, if_false]
        have hn2 := ne_add hn g2 hb g3 g4 g5
        cases st with
        | none =>
          obtain rfl := h1 rfl
          exact span_words s f _ (some a) acc a (fun h => by cases h) (fun x h => by cases h; exact ⟨rfl, by omega⟩) hKs (by omega) hn2
        | some x =>
          obtain ⟨rfl, hx⟩ := h2 x rfl
          exact span_words s f _ (some a) acc a (fun h => by cases h) (fun x h => by cases h; exact ⟨rfl, by omega⟩) hKs (by omega) hn2
    · obtain rfl : p = s.size := by omega
      rw [Lib.spansFromP_end isBl s f _ _ _ hlt]
      unfold wd
      rw [pw_last s a hn]
      cases st with
      | none =>
        obtain rfl := h1 rfl
        have hz : ¬ 0 < (s.extract s.size s.size).size := by rw [ByteArray.size_extract]; omega
        rw [List.filter_cons_of_neg (by simp)]
        simp [Lib.closeSpans]
      | some x =>
        obtain ⟨rfl, hx⟩ := h2 x rfl
        have hz : 0 < (s.extract a s.size).size := by rw [ByteArray.size_extract]; omega
        rw [List.filter_eq_self.2 (fun x hx => by rw [List.mem_singleton.1 hx]; exact decide_eq_true hz)]
        simp [Lib.closeSpans]
theorem fields_wd (s : ByteArray) : Lib.goFieldsP isBl s = wd s := by
  have h := span_words s s.size 0 none [] 0 (fun _ => rfl) (fun x h => by cases h) (Nat.zero_le _) (by omega) (fun j _ h => absurd h (Nat.not_lt_zero j))
  unfold Lib.goFieldsP Lib.spansOfP
  rw [h]
  have e : s.extract 0 s.size = s := by
    apply ByteArray.ext
    simp
  rw [e]
  rfl
end Go.Proofs.YtehmnohkfchljaaDoor.Ex
