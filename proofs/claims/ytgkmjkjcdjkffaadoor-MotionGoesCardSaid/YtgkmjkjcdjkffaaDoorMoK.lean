/-
  PROVED HERE: what holds of the command that keys are: how great its number is, which keys stand behind a motion; in plain Lean. Conditions: as each theorem states.
-/
import Derived.Test.YtgkmjkjcdjkffaaDoorKeyA
namespace Go.Proofs.YtgkmjkjcdjkffaaDoor.Key
def mv (c : UInt8) : Bool := mot c || far c
def tlOk (key : UInt8) (arg : List UInt8) : Prop := arg.length = argn key ∧ arg.all (okA (argn key)) = true
structure Good (c : Cm) : Prop where
  n : c.n ≤ 9999
  one : c.move = 0 → mv c.op = true → tlOk c.op c.arg
  two : dyc c.op = true → c.move = c.op ∨ (mv c.move = true ∧ tlOk c.move c.arg)
theorem fin_good {key : UInt8} {c d : Cm} {l r : List UInt8} (h : fin key c l = .done d r) : d = { c with arg := l.take (argn key) } ∧ tlOk key (l.take (argn key)) := by
  unfold fin at h
  split at h
  · cases h
  · rename_i h1
    split at h
    · cases h
    · rename_i h2
      injection h with h3 h4
      refine ⟨h3.symm, by rw [List.length_take]; omega, ?_⟩
      rw [List.all_eq_true]
      intro x hx
      have := h1
      rw [List.any_eq_true] at this
      cases ho : okA (argn key) x
      · exact absurd ⟨x, hx, by rw [ho]; rfl⟩ this
      · rfl
theorem dyc_all : ∀ n : Fin 256, dyc (UInt8.ofNat n.val) = true → mv (UInt8.ofNat n.val) = false := by decide +kernel
theorem dyc_mv (c : UInt8) (h : dyc c = true) : mv c = false := by
  have e : UInt8.ofNat c.toNat = c := UInt8.ofNat_toNat
  have := dyc_all ⟨c.toNat, UInt8.toNat_lt c⟩
  simp only [e] at this
  exact this h
theorem ct_le2 (l : List UInt8) : ∀ n, n ≤ 9999 → (ct n l).1 ≤ 9999 := by
  induction l with
  | nil => intro n h; exact h
  | cons c r ih =>
    intro n h
    rw [ct]
    split
    · exact ih _ (by omega)
    · exact h
theorem nn_le (n m : Nat) (h : n ≤ 9999) : nn n m ≤ 9999 := by unfold nn; split <;> omega
theorem bd2_good {reg : UInt8} {n : Nat} {op : UInt8} {l r : List UInt8} {c : Cm} (hn : n ≤ 9999) (ho : dyc op = true) (h : bd2 reg n op l = .done c r) : Good c := by
  cases l with
  | nil => cases h
  | cons m l =>
    rw [bd2] at h
    split at h
    · rename_i e
      injection h with h1 _
      subst h1
      exact ⟨hn, fun _ hm => absurd hm (by rw [dyc_mv op ho]; decide), fun _ => .inl e⟩
    · split at h
      · rename_i hm
        obtain ⟨rfl, ht⟩ := fin_good h
        exact ⟨hn, fun _ hm => absurd hm (by rw [dyc_mv op ho]; decide), fun _ => .inr ⟨hm, ht⟩⟩
      · cases h
theorem bd1_good {reg : UInt8} {n : Nat} {l r : List UInt8} {c : Cm} (hn : n ≤ 9999) (h : bd1 reg n l = .done c r) : Good c := by
  cases l with
  | nil => cases h
  | cons op l =>
    rw [bd1] at h
    split at h
    · rename_i ho
      exact bd2_good (nn_le _ _ hn) ho h
    · rename_i ho
      split at h
      · obtain ⟨rfl, ht⟩ := fin_good h
        exact ⟨hn, fun _ _ => ht, fun hd => absurd hd ho⟩
      · cases h
theorem pp_good {l r : List UInt8} {c : Cm} (h : pp l = .done c r) : Good c := by
  have hb : ∀ g l, body g l = .done c r → Good c := fun g l h => bd1_good (ct_le2 l 0 (by decide)) h
  cases l with
  | nil => cases h
  | cons a l =>
    by_cases e : a = 34
    · subst e
      cases l with
      | nil => simp [pp] at h
      | cons g l =>
        by_cases e2 : regOk g = true
        · have : pp (34 :: g :: l) = body g l := by simp [pp, e2]
          rw [this] at h; exact hb _ _ h
        · simp [pp, e2] at h
    · have : pp (a :: l) = body 0 (a :: l) := by simp [pp, e]
      rw [this] at h; exact hb _ _ h
end Go.Proofs.YtgkmjkjcdjkffaaDoor.Key
