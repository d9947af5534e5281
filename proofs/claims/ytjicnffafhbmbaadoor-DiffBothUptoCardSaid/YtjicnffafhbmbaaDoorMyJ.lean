/-
  PROVED HERE: the edits' plain law: one edit a byte, put together from the left. Conditions: as each theorem states.
-/
import Derived.Test.YtjicnffafhbmbaaDoorMyA
import Derived.Test.YtjicnffafhbmbaaDoorEds
namespace Go.Proofs.YtjicnffafhbmbaaDoor.My
open Go.RowKit

/-- An edit behind others: it joins the last where both are of one kind. -/
def addE (l : List Ed) (e : Ed) : List Ed :=
  match l.getLast? with
  | some q => if q.what = e.what then l.dropLast ++ [⟨q.what, q.n + e.n, q.text ++ e.text⟩] else l ++ [e]
  | none => l ++ [e]
/-- Whether a byte of a goes out at i, j, where the two bytes are not one. -/
def outs (a b : ByteArray) (i j : Nat) : Prop := i < a.size ∧ (j = b.size ∨ T a b i (j + 1) ≤ T a b (i + 1) j)
instance (a b : ByteArray) (i j : Nat) : Decidable (outs a b i j) := inferInstanceAs (Decidable (_ ∧ _))
def sames (a b : ByteArray) (i j : Nat) : Prop := i < a.size ∧ j < b.size ∧ byteAt a i = byteAt b j
instance (a b : ByteArray) (i j : Nat) : Decidable (sames a b i j) := inferInstanceAs (Decidable (_ ∧ _))
/-- The edits from i, j on, one a byte. -/
def steps (a b : ByteArray) (i j : Nat) : List Ed :=
  if h1 : sames a b i j then ⟨1, 1, ⟨#[]⟩⟩ :: steps a b (i + 1) (j + 1)
  else if h2 : outs a b i j then ⟨2, 1, ⟨#[]⟩⟩ :: steps a b (i + 1) j
  else if h3 : j < b.size then ⟨3, 0, b.extract j (j + 1)⟩ :: steps a b i (j + 1)
  else []
  termination_by (a.size - i) + (b.size - j)
  decreasing_by
    · have := h1.1; have := h1.2.1; omega
    · have := h2.1; omega
    · omega
theorem steps_end {a b : ByteArray} {i j : Nat} (h : ¬ (i < a.size ∨ j < b.size)) : steps a b i j = [] := by
  rw [steps, dif_neg (fun q => h (.inl q.1)), dif_neg (fun q => h (.inl q.1)), dif_neg (fun q => h (.inr q))]
theorem steps_same {a b : ByteArray} {i j : Nat} (h : sames a b i j) : steps a b i j = ⟨1, 1, ⟨#[]⟩⟩ :: steps a b (i + 1) (j + 1) := by
  rw [steps, dif_pos h]
theorem steps_out {a b : ByteArray} {i j : Nat} (h : ¬ sames a b i j) (ho : outs a b i j) : steps a b i j = ⟨2, 1, ⟨#[]⟩⟩ :: steps a b (i + 1) j := by
  rw [steps, dif_neg h, dif_pos ho]
theorem steps_in {a b : ByteArray} {i j : Nat} (h : ¬ sames a b i j) (ho : ¬ outs a b i j) (hj : j < b.size) : steps a b i j = ⟨3, 0, b.extract j (j + 1)⟩ :: steps a b i (j + 1) := by
  rw [steps, dif_neg h, dif_neg ho, dif_pos hj]
/-- The document takes the same one out first. -/
theorem outs_doc {a b : ByteArray} {i j : Nat} (hs : ¬ sames a b i j) (hl : i < a.size ∨ j < b.size) (hj : j ≤ b.size) : outs a b i j ↔ (j = b.size ∨ (i < a.size ∧ T a b (i + 1) j = T a b i j)) := by
  unfold outs
  by_cases e : j = b.size
  · exact ⟨fun _ => .inl e, fun _ => ⟨by omega, .inl e⟩⟩
  · by_cases hi : i < a.size
    · have h := t_ne hi (by omega) (fun q => hs ⟨hi, by omega, q⟩)
      constructor
      · rintro ⟨_, h2⟩
        exact .inr ⟨hi, by omega⟩
      · rintro (h2 | ⟨_, h2⟩)
        · exact absurd h2 e
        · exact ⟨hi, .inr (by omega)⟩
    · exact ⟨fun h => absurd h.1 hi, fun h => by rcases h with h | h <;> omega⟩
theorem steps_len {a b : ByteArray} (s : Nat) : ∀ i j, i ≤ a.size → j ≤ b.size → (a.size - i) + (b.size - j) ≤ s → (steps a b i j).length ≤ s := by
  induction s with
  | zero => intro i j hi hj h; rw [steps_end (by omega)]; exact Nat.le_refl _
  | succ s ih =>
    intro i j hi hj h
    by_cases hl : i < a.size ∨ j < b.size
    · by_cases h1 : sames a b i j
      · rw [steps_same h1, List.length_cons]
        have := ih (i + 1) (j + 1) h1.1 h1.2.1 (by have := h1.1; have := h1.2.1; omega)
        omega
      · by_cases h2 : outs a b i j
        · rw [steps_out h1 h2, List.length_cons]
          have := ih (i + 1) j h2.1 hj (by have := h2.1; omega)
          omega
        · have hj2 : j < b.size := by
            by_cases e : j = b.size
            · exact absurd ⟨by omega, .inl e⟩ h2
            · omega
          rw [steps_in h1 h2 hj2, List.length_cons]
          have := ih i (j + 1) hi hj2 (by omega)
          omega
    · rw [steps_end hl]; exact Nat.zero_le _
/-- The edits so far, by the bytes that they say: what they take, what they bring. -/
def sizeE (l : List Ed) : Int := (l.map fun e => e.n).sum
theorem addE_len (l : List Ed) (e : Ed) : (addE l e).length ≤ l.length + 1 := by
  unfold addE
  split
  · split
    · simp [List.length_dropLast]
    · simp
  · simp
end Go.Proofs.YtjicnffafhbmbaaDoor.My
