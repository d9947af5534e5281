/-
  PROVED HERE: trees of pieces, in plain Lean, and as they lie in memory. Conditions: as each theorem states.
-/
import Derived.Test.YtfckhkpheahgaaaDoorOwn
namespace Go.Proofs.YtfckhkpheahgaaaDoor.Pc
open Go.RowKit
inductive Tr where
  | nil
  | node (l : Tr) (t : ByteArray) (r : Tr)
def lst (t : ByteArray) : List UInt8 := t.data.toList
theorem lst_len (t : ByteArray) : (lst t).length = t.size := rfl
def Tr.txt : Tr → List UInt8
  | .nil => []
  | .node l t r => l.txt ++ lst t ++ r.txt
def Tr.hgt : Tr → Nat
  | .nil => 0
  | .node l _ r => 1 + max l.hgt r.hgt
def Tr.NE : Tr → Prop
  | .nil => True
  | .node l t r => l.NE ∧ 1 ≤ t.size ∧ r.NE
def Tr.parts : Tr → List ByteArray
  | .nil => []
  | .node l t r => l.parts ++ t :: r.parts
theorem hgt_le : ∀ T : Tr, T.NE → T.hgt ≤ T.txt.length
  | .nil, _ => Nat.le_refl _
  | .node l t r, h => by
    have h1 := hgt_le l h.1
    have h2 := hgt_le r h.2.2
    have h3 := h.2.1
    simp only [Tr.hgt, Tr.txt, List.length_append, lst_len]
    omega
theorem txt_parts : ∀ T : Tr, T.txt = (T.parts.map lst).flatten
  | .nil => rfl
  | .node l t r => by simp [Tr.txt, Tr.parts, txt_parts l, txt_parts r]
theorem txt_node (l : Tr) (t : ByteArray) (r : Tr) : (Tr.node l t r).txt = l.txt ++ lst t ++ r.txt := rfl
theorem len_node (l : Tr) (t : ByteArray) (r : Tr) : (Tr.node l t r).txt.length = l.txt.length + t.size + r.txt.length := by rw [txt_node, List.length_append, List.length_append, lst_len]
/-- The tree T lies in memory at v. -/
def IsT (w : World) : Value → Tr → Prop
  | v, .nil => v = .pointer none
  | v, .node l t r => ∃ (b : Nat) (vl vr : Option Addr), v = .pointer (some ⟨b, 0, none⟩) ∧ w.cell? ⟨b, 0, none⟩ = some (.string t) ∧ w.cell? ⟨b, 1, none⟩ = some (.int .i64 ((Tr.node l t r).txt.length : Nat)) ∧ w.cell? ⟨b, 2, none⟩ = some (.int .i64 ((Tr.node l t r).hgt : Nat)) ∧
      w.cell? ⟨b, 3, none⟩ = some (.pointer vl) ∧ w.cell? ⟨b, 4, none⟩ = some (.pointer vr) ∧ IsT w (.pointer vl) l ∧ IsT w (.pointer vr) r
theorem IsT.below {w w' : World} (hb : Below w.heap.size w w') : ∀ {v : Value} {T : Tr}, IsT w v T → IsT w' v T
  | _, .nil, h => h
  | _, .node _ _ _, ⟨b, vl, vr, e, c0, c1, c2, c3, c4, hl, hr⟩ => ⟨b, vl, vr, e, keepCell hb c0, keepCell hb c1, keepCell hb c2, keepCell hb c3, keepCell hb c4, hl.below hb, hr.below hb⟩
theorem IsT.ptr {w : World} {v : Value} : ∀ {T : Tr}, IsT w v T → ∃ p, v = .pointer p
  | .nil, h => ⟨none, h⟩
  | .node _ _ _, ⟨b, _, _, e, _⟩ => ⟨some ⟨b, 0, none⟩, e⟩
/-- Some tree, of no empty piece, with the text s, lies there. -/
def Has (w : World) (v : Value) (s : List UInt8) : Prop := ∃ T : Tr, IsT w v T ∧ T.NE ∧ T.txt = s
theorem Has.below {w w' : World} {v : Value} {s : List UInt8} (h : Has w v s) (hb : Below w.heap.size w w') : Has w' v s := by
  obtain ⟨T, h1, h2, h3⟩ := h
  exact ⟨T, h1.below hb, h2, h3⟩
theorem Has.ptr {w : World} {v : Value} {s : List UInt8} (h : Has w v s) : ∃ p, v = .pointer p := h.choose_spec.1.ptr
theorem has_nil (w : World) : Has w (.pointer none) [] := ⟨.nil, rfl, trivial, rfl⟩
end Go.Proofs.YtfckhkpheahgaaaDoor.Pc
