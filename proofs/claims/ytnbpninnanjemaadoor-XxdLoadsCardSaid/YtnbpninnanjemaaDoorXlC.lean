/-
  PROVED HERE: the document's map of what is told, step by step; the lines of a text. Conditions: as each theorem states.
-/
import Derived.Test.YtnbpninnanjemaaDoorXlA
import Derived.Maps.OwnOps
import Derived.Lib.CutLaws
import Derived.Maps.Views
import Derived.Maps.StringElems
namespace Go.Proofs.YtnbpninnanjemaaDoor.Xl
open Go.RowKit Lz Dig Go.Maps
theorem put_getD (out : List UInt8) (a : Nat) (b : List UInt8) (k : Nat) : (put out a b).getD k 0 = if a ≤ k ∧ k < a + b.length then b.getD (k - a) 0 else out.getD k 0 := by
  by_cases hk : k < (put out a b).length
  · exact put_get out a b k hk
  · have hl := put_len out a b
    have e : (put out a b).getD k 0 = 0 := by rw [List.getD_eq_getElem?_getD, List.getElem?_eq_none (by omega)]; rfl
    rw [e]
    by_cases hb : b.length = 0
    · rw [if_pos hb] at hl
      rw [if_neg (by omega), List.getD_eq_getElem?_getD, List.getElem?_eq_none (by omega)]
      rfl
    · rw [if_neg hb] at hl
      rw [if_neg (by omega), List.getD_eq_getElem?_getD, List.getElem?_eq_none (by omega)]
      rfl
theorem put_snoc_len (out : List UInt8) (a : Nat) (acc : List UInt8) (b : UInt8) : (put out a (acc ++ [b])).length = max (put out a acc).length (a + acc.length + 1) := by
  rw [put_len, put_len, List.length_append]
  simp only [List.length_singleton]
  rw [if_neg (by omega)]
  split <;> omega
theorem put_snoc_at (out : List UInt8) (a : Nat) (acc : List UInt8) (b : UInt8) : (put out a (acc ++ [b])).getD (a + acc.length) 0 = b := by
  rw [put_getD, if_pos (by simp), show a + acc.length - a = acc.length by omega]
  simp
theorem put_snoc_other (out : List UInt8) (a : Nat) (acc : List UInt8) (b : UInt8) (k : Nat) (hk : k ≠ a + acc.length) : (put out a (acc ++ [b])).getD k 0 = (put out a acc).getD k 0 := by
  rw [put_getD, put_getD, List.length_append]
  simp only [List.length_singleton]
  by_cases h : a ≤ k ∧ k < a + acc.length
  · rw [if_pos (by omega), if_pos h, List.getD_eq_getElem?_getD, List.getD_eq_getElem?_getD, List.getElem?_append_left (by omega)]
  · rw [if_neg (by omega), if_neg h]
section
variable {H : Type}
theorem rd_start : RD (H := H) (.map []) [] := fun k => ⟨[], rfl, .inr ⟨rfl, rfl⟩⟩
theorem rd_step {D : DataW H} {out acc : List UInt8} {a : Nat} (hD : IsMap D) (h : RD D (put out a acc)) (b : UInt8) : RD (D.put (.int .i64 ((a + acc.length : Nat) : Int)) (.lit (.string [b]))) (put out a (acc ++ [b])) := fun k => by
  by_cases hk : k = a + acc.length
  · subst hk
    refine ⟨[b], atKey_put_same hD (by trivial) _ _, .inl ⟨by rw [put_snoc_at], by rw [put_snoc_len]; omega⟩⟩
  · obtain ⟨s, h1, h2⟩ := h k
    refine ⟨s, ?_, ?_⟩
    · rw [atKey_put_other (by intro e; injection e with _ e; omega)]
      exact h1
    · rw [put_snoc_other _ _ _ _ _ hk, put_snoc_len]
      rcases h2 with ⟨e1, e2⟩ | e
      · exact .inl ⟨e1, by omega⟩
      · exact .inr e
/-- What stands nowhere is told to be 0. -/
theorem rd_zero {D : DataW H} {out : List UInt8} {k : Nat} (hD : IsMap D) (h : RD D out) (hk : k < out.length) (h0 : out.getD k 0 = 0) : RD (D.put (.int .i64 (k : Int)) (.lit (.string [0]))) out := fun j => by
  by_cases hj : j = k
  · subst hj
    exact ⟨[0], atKey_put_same hD (by trivial) _ _, .inl ⟨by rw [h0], hk⟩⟩
  · obtain ⟨s, h1, h2⟩ := h j
    refine ⟨s, ?_, h2⟩
    rw [atKey_put_other (by intro e; injection e with _ e; omega)]
    exact h1
end
/-- m[k], strings, of a map that the call made. -/
theorem wpList_lookup_own_string {H : Type} {P : Program} (w : World) {ops : Array Oper} {rest : List Oper} {o : Oper} {a : Act} {Q : Exit → Act → World → Prop}
    (hg : o.guard = none) (m x : Operand) (t : TypeId) (hop : o.op = Op.lookup t m x false)
    (k e : TypeId) (K : Keyed P k) (ht : P.underlying t = some (.map k e)) (he : P.underlying e = some .string) (hz : (zeroValue e).run P w = .ok (.string ⟨#[]⟩) w) (b n : Nat) (D : DataW H)
    (hm : a.eval m = .map (some b)) (hown : w.ownsMap P k (plainElem P e) b n D) (key : Value) (kl : Lit) (hx : a.eval x = key) (hkey : keyOf P k key = some kl)
    (hK : ∀ c : ByteArray, D.atKey kl (.lit (.string [])) = .lit (.string c.data.toList) → wpList P ops Q rest (a.put o.dst (.string c)) w) :
    wpList P ops Q (o :: rest) a w := by
  refine wpList_plain hg fun K' hK' => ?_
  obtain ⟨v, ps, hrun, hv⟩ := hown.lookup K ht hz (plainElem_string he (s := ⟨#[]⟩) (by decide)) hkey
  obtain ⟨c, rfl, hc, _⟩ := plainElem_string_inv he hv
  simp only [Prod.mk.injEq] at hc
  unfold Oper.wp
  simp [execOp, hop, hm, hx, hrun, Result.andThen]
  exact hK' _ _ (hK c hc.1)
/-- The lines of a text. -/
def nl : ByteArray := ⟨#[10]⟩
def LS (s : ByteArray) : List ByteArray := Lib.splitB nl 0 (Lib.countB s nl) s
theorem LS_len (s : ByteArray) : (LS s).length = Lib.countB s nl + 1 := Lib.splitB_all nl (by decide) 0 _ s rfl
def tot : List ByteArray → Nat
  | [] => 0
  | l :: r => l.size + 1 + tot r
theorem split_tot : ∀ (k : Nat) (s : ByteArray), Lib.countB s nl = k → tot (Lib.splitB nl 0 k s) = s.size + 1
  | 0, s, _ => rfl
  | k + 1, s, h => by
    have hi : Lib.indexB s nl ≠ -1 := fun e => by rw [Lib.countB_miss s nl e] at h; cases h
    obtain ⟨i, hi', hb⟩ : ∃ i : Nat, Lib.indexB s nl = i ∧ i + nl.size ≤ s.size := (Lib.indexB_cases s nl).resolve_left hi
    have hc := Lib.countB_hit s nl i (by decide) hi'
    rw [Lib.splitB_hit nl 0 k s i hi', tot, split_tot k _ (by omega)]
    have h1 : nl.size = 1 := rfl
    simp only [ByteArray.size_extract]
    omega
theorem LS_tot (s : ByteArray) : tot (LS s) = s.size + 1 := split_tot _ s rfl
theorem tot_drop : ∀ (l : List ByteArray) (k : Nat) (h : k < l.length), tot (l.drop k) = l[k].size + 1 + tot (l.drop (k + 1))
  | [], _, h => by simp at h
  | x :: r, 0, _ => rfl
  | x :: r, k + 1, h => tot_drop r k (by simpa using h)
theorem ldl_line {l : ByteArray} {r : List ByteArray} {b a : Nat} {out acc : List UInt8} {A : Option Nat} (h : ln l = (none, A, acc)) (ha : A.getD out.length = a) (ho : out.length ≤ 4000) :
    (4000 < (put out a acc).length → ldl (l :: r) b out = (4, -1, [])) ∧ ((put out a acc).length ≤ 4000 → ldl (l :: r) b out = ldl r (b + l.size + 1) (put out a acc)) := by
  have hp := put_len out a acc
  have h1 : (ln l).1 = none := by rw [h]
  have h2 : (ln l).2.1 = A := by rw [h]
  have h3 : (ln l).2.2 = acc := by rw [h]
  constructor
  · intro hl
    refine ldl_full h1 ?_
    rw [h2, h3, ha]
    by_cases h0 : acc.length = 0
    · rw [if_pos h0] at hp; omega
    · rw [if_neg h0] at hp; omega
  · intro hl
    have := ldl_next (r := r) (b := b) (out := out) h1 (by
      rw [h2, h3, ha]
      by_cases h0 : acc.length = 0
      · omega
      · rw [if_neg h0] at hp; omega)
    rw [h2, h3, ha] at this
    exact this
end Go.Proofs.YtnbpninnanjemaaDoor.Xl
