/-
  PROVED HERE: the places of a pattern of half bytes rise, and lie in the text; in plain Lean. Conditions: as each theorem states.
-/
import Derived.Test.YtgkmjkjcdjkffaaDoorFdC
import Derived.Test.YtgkmjkjcdjkffaaDoorMoA
namespace Go.Proofs.YtgkmjkjcdjkffaaDoor.Mo
open Go.Proofs.YtgkmjkjcdjkffaaDoor.Fd Go.RowKit
theorem ris_of {l : List Int} (h : l.Pairwise (fun a b => a < b)) : Ris l := fun i j hi hj hij => List.pairwise_iff_getElem.1 h i j hi hj hij
theorem lk_ris (s : ByteArray) (m : List Int) (n i : Nat) : Ris (lk s m n i) := by
  refine ris_of ?_
  unfold lk
  rw [List.pairwise_map]
  refine (List.Pairwise.filter _ List.pairwise_lt_range).imp ?_
  intro a b h
  omega
theorem lk_in (s : ByteArray) (m : List Int) (n i : Nat) (hn : 1 ≤ n) : ∀ x ∈ lk s m n i, 0 ≤ x ∧ x ≤ i := by
  intro x hx
  unfold lk at hx
  obtain ⟨p, hp, rfl⟩ := List.mem_map.1 hx
  have := (List.mem_filter.1 hp).1
  rw [List.mem_range] at this
  omega
theorem ll_ris (s : ByteArray) (m : List Int) : Ris (ll s m) := by
  unfold ll
  split
  · exact fun i j hi => absurd hi (Nat.not_lt_zero _)
  · exact lk_ris _ _ _ _
theorem ll_in (s : ByteArray) (m : List Int) : ∀ x ∈ ll s m, 0 ≤ x ∧ x ≤ s.size := by
  unfold ll
  split
  · intro x hx; cases hx
  · rename_i h
    unfold bad at h
    exact lk_in _ _ _ _ (by omega)
theorem ll_err (s : ByteArray) (m : List Int) (h : lc m ≠ 0) : ll s m = [] := by
  unfold lc at h
  unfold ll
  split
  · rfl
  · rename_i hb; rw [if_neg hb] at h; exact absurd rfl h
/-- What Like tells: places, and no error; or an error, and none. -/
def LkP (l : List Int) (W : World) (e : Ending) (w' : World) : Prop := (∃ v, e = .returned (.tuple #[v, .nilIface]) ∧ Ints w' v l ∧ Below W.heap.size W w') ∨ (l = [] ∧ ∃ v t z, e = .returned (.tuple #[v, .iface t z]) ∧ Ints w' v l ∧ Below W.heap.size W w')
theorem like_all (s : ByteArray) (v : Value) (m : List Int) (hl : m.length ≤ 1000000) (hs : s.size ≤ 1000) (W : World) (hi : Ints W v m) (hb : ∀ x ∈ m, -9223372036854775808 ≤ x ∧ x ≤ 9223372036854775807) :
    Calls Tryd.prog 31 #[.string s, v] W (LkP (ll s m) W) := by
  by_cases h : bad m
  · have e1 : ll s m = [] := by unfold ll; rw [if_pos h]
    have e2 : lc m = 1 := by unfold lc; rw [if_pos h]
    have C := like_any s v m hl hs W hi hb
    rw [e1, e2] at C
    rw [e1]
    refine C.mono fun e w' ⟨v, x, he, h1, h2, h3⟩ => .inr ⟨rfl, ?_⟩
    rcases h2 with ⟨_, h4, _⟩ | ⟨h4, _⟩ | ⟨b, o, h4, _⟩
    · exact absurd h4 (by decide)
    · exact ⟨v, _, _, by rw [he, h4], h1, h3⟩
    · exact ⟨v, _, _, by rw [he, h4], h1, h3⟩
  · have e1 : ll s m = lk s m (m.length / 2) s.size := by unfold ll; rw [if_neg h]
    unfold bad at h
    rw [e1]
    exact (like_yesN s v m (m.length / 2) (by omega) (by omega) hs W hi hb).mono fun e w' h => .inl h
end Go.Proofs.YtgkmjkjcdjkffaaDoor.Mo
