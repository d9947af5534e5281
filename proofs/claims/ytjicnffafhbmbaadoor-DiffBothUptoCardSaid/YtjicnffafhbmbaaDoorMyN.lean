/-
  PROVED HERE: what stays true of the edits while they are put together. Conditions: as each theorem states.
-/
import Derived.Test.YtjicnffafhbmbaaDoorMyL
import Derived.Test.YtjicnffafhbmbaaDoorMyG
namespace Go.Proofs.YtjicnffafhbmbaaDoor.My
open Go.RowKit
/-- No more edits than k, none of them greater than k. -/
def AccOk (l : List Ed) (k : Nat) : Prop := l.length ≤ k ∧ ∀ q ∈ l, (0 ≤ q.n ∧ q.n ≤ (k : Int)) ∧ q.text.size ≤ k
theorem acc_nil : AccOk [] 0 := ⟨Nat.le_refl _, fun q h => absurd h (by simp)⟩
theorem acc_add {l : List Ed} {k : Nat} {e : Ed} (h : AccOk l k) (h1 : 0 ≤ e.n ∧ e.n ≤ 1) (h2 : e.text.size ≤ 1) : AccOk (addE l e) (k + 1) := by
  obtain ⟨hl, hq⟩ := h
  refine ⟨Nat.le_trans (addE_len l e) (by omega), fun q hm => ?_⟩
  rcases List.eq_nil_or_concat l with e0 | ⟨d, p, e0⟩
  · subst e0
    rw [addE_nil, List.mem_singleton] at hm
    subst hm
    exact ⟨⟨h1.1, by omega⟩, by omega⟩
  · rw [List.concat_eq_append] at e0
    subst e0
    have hp := hq p (by simp)
    by_cases hw : p.what = e.what
    · rw [addE_join hw, List.mem_append, List.mem_singleton] at hm
      rcases hm with hm | hm
      · have := hq q (by simp [hm])
        exact ⟨⟨this.1.1, by omega⟩, by omega⟩
      · subst hm
        refine ⟨⟨by have := hp.1.1; have := h1.1; show (0 : Int) ≤ p.n + e.n; omega, by have := hp.1.2; have := h1.2; show p.n + e.n ≤ ((k + 1 : Nat) : Int); omega⟩, ?_⟩
        show (p.text ++ e.text).size ≤ k + 1
        rw [ByteArray.size_append]
        omega
    · rw [addE_new hw, List.mem_append, List.mem_singleton] at hm
      rcases hm with hm | hm
      · have := hq q hm
        exact ⟨⟨this.1.1, by omega⟩, by omega⟩
      · subst hm
        exact ⟨⟨h1.1, by omega⟩, by omega⟩
def EdR (a b : ByteArray) (w2 : World) (lv iv jv : Value) (wr : World) : Prop := ∃ (i j : Nat) (acc : List Ed), i ≤ a.size ∧ j ≤ b.size ∧ iv = .int .i64 i ∧ jv = .int .i64 j ∧ Hid (OwnE wr w2.heap.size lv acc) ∧ Hid (AccOk acc (i + j)) ∧ Hid ((steps a b i j).foldl addE acc = (steps a b 0 0).foldl addE []) ∧ Hid (Below w2.heap.size w2 wr)
def EdP (a b : ByteArray) (W : World) (e : Ending) (w' : World) : Prop := ∃ v, e = .returned (.tuple #[v, .nilIface]) ∧ Eds w' v ((steps a b 0 0).foldl addE []) ∧ Below W.heap.size W w'
end Go.Proofs.YtjicnffafhbmbaaDoor.My
