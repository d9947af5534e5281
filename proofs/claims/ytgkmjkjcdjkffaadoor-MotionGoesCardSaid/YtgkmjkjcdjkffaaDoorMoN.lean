/-
  PROVED HERE: motion's Go and the document's go to the same place, at every motion. Conditions: as each theorem states.
-/
import Derived.Test.YtgkmjkjcdjkffaaDoorMoH
import Derived.Test.YtgkmjkjcdjkffaaDoorMoJ
import Derived.Test.YtgkmjkjcdjkffaaDoorMoK
import Derived.Test.YtgkmjkjcdjkffaaDoorKeyD
namespace Go.Proofs.YtgkmjkjcdjkffaaDoor.Mo
open Go.RowKit
theorem mv_all : ∀ n : Fin 256, Key.mv (UInt8.ofNat n.val) = true → n.val = 104 ∨ n.val = 108 ∨ n.val = 106 ∨ n.val = 107 ∨ n.val = 48 ∨ n.val = 36 ∨ n.val = 103 ∨ n.val = 71 ∨ n.val = 119 ∨ n.val = 98 ∨ n.val = 110 ∨ n.val = 78 ∨ n.val = 91 ∨ n.val = 93 ∨ n.val = 39 ∨ n.val = 102 := by decide +kernel
theorem mv_is (c : UInt8) (h : Key.mv c = true) : c.toNat = 104 ∨ c.toNat = 108 ∨ c.toNat = 106 ∨ c.toNat = 107 ∨ c.toNat = 48 ∨ c.toNat = 36 ∨ c.toNat = 103 ∨ c.toNat = 71 ∨ c.toNat = 119 ∨ c.toNat = 98 ∨ c.toNat = 110 ∨ c.toNat = 78 ∨ c.toNat = 91 ∨ c.toNat = 93 ∨ c.toNat = 39 ∨ c.toNat = 102 := by
  have := mv_all ⟨c.toNat, UInt8.toNat_lt c⟩
  have e : UInt8.ofNat c.toNat = c := UInt8.ofNat_toNat
  simp only [e] at this
  exact this h
theorem bnd_in (L n : Int) (hL : 0 ≤ L) : 0 ≤ bnd L n ∧ bnd L n ≤ L := by unfold bnd; omega
theorem fnd_lt (s : ByteArray) (c : Nat) : ∀ f i k t, fnd s c f i k = some t → t < i + f := by
  intro f
  induction f with
  | zero => intro i k t h; cases h
  | succ f ih =>
    intro i k t h
    rw [fnd] at h
    split at h
    · split at h
      · injection h with h; omega
      · have := ih _ _ _ h; omega
    · have := ih _ _ _ h; omega
theorem fs_lt {s : ByteArray} {c i k t : Nat} (h : fs s c i k = some t) (hi : i ≤ s.size) : t < s.size := by
  unfold fs at h
  have := fnd_lt s c _ _ _ _ h
  omega
theorem fs_in (s : ByteArray) (c i k : Nat) : faC (fs s c i k) = 0 → 0 ≤ faN (fs s c i k) ∧ faN (fs s c i k) ≤ s.size := by
  intro h
  by_cases hi : i ≤ s.size
  · cases e : fs s c i k with
    | none => rw [e] at h; exact absurd h (by decide)
    | some t =>
      have := fs_lt e hi
      show 0 ≤ (t : Int) ∧ (t : Int) ≤ s.size
      omega
  · rw [fs_end (by omega)] at h
    exact absurd h (by decide)
theorem po_in (L : Int) (hL : 0 ≤ L) (z : Option Int) : poC z = 0 → 0 ≤ poN L z ∧ poN L z ≤ L := by
  intro h
  cases z with
  | none => exact absurd h (by decide)
  | some t => exact bnd_in L t hL
theorem ni_mem (on : Bool) (l : List Int) (hr : Ris l) (h0 : 0 < l.length) : ∀ k a, ni on l (k + 1) a ∈ l := by
  intro k
  induction k with
  | zero => intro a; rw [ni, ni]; exact nt_mem on l a hr h0
  | succ k ih => intro a; rw [ni]; exact ih _
theorem nx_in (on : Bool) (l : List Int) (L : Nat) (hr : Ris l) (hin : ∀ x ∈ l, 0 ≤ x ∧ x ≤ L) (k : Nat) (a : Int) : nxC l = 0 → 0 ≤ nxN on l k a ∧ nxN on l k a ≤ L := by
  intro h
  by_cases e : l = []
  · subst e; exact absurd h (by decide)
  · unfold nxN
    rw [if_neg e]
    exact hin _ (ni_mem on l hr (List.length_pos_iff.2 e) _ _)
/-- Both go to one place. -/
def Alike (op : Int) (n : Nat) (arg s : ByteArray) (A : Nat) (a1 : Option Addr) (n1 c1 : Nat) (mo : Option Nat) (a2 : Option Addr) (n2 c2 : Nat) (W : World) : Prop :=
  ∃ N : Int, ∃ b : Bool, ∃ c : Int, (c = 0 → 0 ≤ N ∧ N ≤ s.size) ∧
    (∀ W', Below W.heap.size W W' → Calls Tryd.prog 7 #[.agg #[.string s, .int .i64 (A : Int), .slice a1 n1 c1, .map mo, .slice a2 n2 c2], .int .u8 op, .int .i64 n, .string arg] W' (GP N b c W')) ∧
    (∀ W', Below W.heap.size W W' → Calls Tryd.prog 6 #[.agg #[.string s, .int .i64 (A : Int), .slice a1 n1 c1, .map mo, .slice a2 n2 c2], .int .u8 op, .int .i64 n, .string arg] W' (GD N b c W'))
theorem alike_any (op : UInt8) (hmv : Key.mv op = true) (arg : ByteArray) (ht : Key.tlOk op (Key.lst arg)) (s : ByteArray) (hs : s.size ≤ 1000) (A : Nat) (hAL : A = 0 ∨ A < s.size) (n : Nat) (hn : n ≤ 9999)
    (ms ps : List Int) (hml : ms.length ≤ 1000000) (hmb : ∀ x ∈ ms, -9223372036854775808 ≤ x ∧ x ≤ 9223372036854775807) (hpl : ps.length ≤ 100000) (hps : ∀ x ∈ ps, 0 ≤ x ∧ x ≤ s.size)
    (a1 : Option Addr) (n1 c1 : Nat) (mo : Option Nat) (a2 : Option Addr) (n2 c2 : Nat) (f : Nat → Int × Bool) (W : World) (hi1 : Ints W (.slice a1 n1 c1) ms) (hi2 : Ints W (.slice a2 n2 c2) ps) (hM : Marks W mo f) :
    Alike (op.toNat : Int) n arg s A a1 n1 c1 mo a2 n2 c2 W := by
  have hA : A ≤ s.size := by omega
  have hL : (0 : Int) ≤ (s.size : Int) := by omega
  rcases mv_is op hmv with e | e | e | e | e | e | e | e | e | e | e | e | e | e | e | e
  · rw [show ((op.toNat : Nat) : Int) = 104 by omega]
    exact ⟨_, _, _, fun _ => bnd_in _ _ hL, fun W' _ => go_h s hs A hA n hn arg a1 n1 c1 mo a2 n2 c2 W', fun W' _ => dgo_h s hs A hA n hn arg a1 n1 c1 mo a2 n2 c2 W'⟩
  · rw [show ((op.toNat : Nat) : Int) = 108 by omega]
    exact ⟨_, _, _, fun _ => bnd_in _ _ hL, fun W' _ => go_l s hs A hA n hn arg a1 n1 c1 mo a2 n2 c2 W', fun W' _ => dgo_l s hs A hA n hn arg a1 n1 c1 mo a2 n2 c2 W'⟩
  · rw [show ((op.toNat : Nat) : Int) = 106 by omega]
    refine ⟨_, _, _, ?_, fun W' _ => go_j s hs A hA n hn arg a1 n1 c1 mo a2 n2 c2 W', fun W' _ => dgo_j s hs A hA n hn arg a1 n1 c1 mo a2 n2 c2 W'⟩
    intro h
    split at h <;> split <;> omega
  · rw [show ((op.toNat : Nat) : Int) = 107 by omega]
    refine ⟨_, _, _, ?_, fun W' _ => go_k s hs A hA n hn arg a1 n1 c1 mo a2 n2 c2 W' hAL, fun W' _ => dgo_k s hs A hA n hn arg a1 n1 c1 mo a2 n2 c2 W' hAL⟩
    intro h
    split at h <;> split <;> omega
  · rw [show ((op.toNat : Nat) : Int) = 48 by omega]
    refine ⟨_, _, _, ?_, fun W' _ => go_z s hs A hA n hn arg a1 n1 c1 mo a2 n2 c2 W', fun W' _ => dgo_z s hs A hA n hn arg a1 n1 c1 mo a2 n2 c2 W'⟩
    intro _
    omega
  · rw [show ((op.toNat : Nat) : Int) = 36 by omega]
    exact ⟨_, _, _, fun _ => bnd_in _ _ hL, fun W' _ => go_d s hs A hA n hn arg a1 n1 c1 mo a2 n2 c2 W', fun W' _ => dgo_d s hs A hA n hn arg a1 n1 c1 mo a2 n2 c2 W'⟩
  · rw [show ((op.toNat : Nat) : Int) = 103 by omega]
    exact ⟨_, _, _, fun _ => bnd_in _ _ hL, fun W' _ => go_g s hs A hA n hn arg a1 n1 c1 mo a2 n2 c2 W', fun W' _ => dgo_g s hs A hA n hn arg a1 n1 c1 mo a2 n2 c2 W'⟩
  · rw [show ((op.toNat : Nat) : Int) = 71 by omega]
    refine ⟨_, _, _, ?_, fun W' _ => go_G s hs A hA n hn arg a1 n1 c1 mo a2 n2 c2 W', fun W' _ => dgo_G s hs A hA n hn arg a1 n1 c1 mo a2 n2 c2 W'⟩
    intro _
    split
    · exact bnd_in _ _ hL
    · omega
  · rw [show ((op.toNat : Nat) : Int) = 119 by omega]
    exact ⟨_, _, _, fun _ => bnd_in _ _ hL, fun W' _ => go_w s hs A hA n hn arg a1 n1 c1 mo a2 n2 c2 W', fun W' _ => dgo_w s hs A hA n hn arg a1 n1 c1 mo a2 n2 c2 W'⟩
  · rw [show ((op.toNat : Nat) : Int) = 98 by omega]
    exact ⟨_, _, _, fun _ => bnd_in _ _ hL, fun W' _ => go_b s hs A hA n hn arg a1 n1 c1 mo a2 n2 c2 W', fun W' _ => dgo_b s hs A hA n hn arg a1 n1 c1 mo a2 n2 c2 W'⟩
  · rw [show ((op.toNat : Nat) : Int) = 110 by omega]
    exact ⟨_, _, _, nx_in true _ s.size (ll_ris s ms) (ll_in s ms) (max n 1) A, fun W' hB => go_far 110 (by simp) _ _ _ s hs A hA n hn arg a1 n1 c1 mo a2 n2 c2 W' (fun W2 hB2 => far_n true 110 rfl s hs A ms ⟨by omega, by omega⟩ hml hmb (max n 1) ⟨by omega, by omega⟩ arg _ mo a2 n2 c2 W2 ((hi1.below hB).below hB2)), fun W' hB => dgo_n_true s hs A hA n hn arg ms hml hmb _ mo a2 n2 c2 W' (hi1.below hB)⟩
  · rw [show ((op.toNat : Nat) : Int) = 78 by omega]
    exact ⟨_, _, _, nx_in false _ s.size (ll_ris s ms) (ll_in s ms) (max n 1) A, fun W' hB => go_far 78 (by simp) _ _ _ s hs A hA n hn arg a1 n1 c1 mo a2 n2 c2 W' (fun W2 hB2 => far_n false 78 rfl s hs A ms ⟨by omega, by omega⟩ hml hmb (max n 1) ⟨by omega, by omega⟩ arg _ mo a2 n2 c2 W2 ((hi1.below hB).below hB2)), fun W' hB => dgo_n_false s hs A hA n hn arg ms hml hmb _ mo a2 n2 c2 W' (hi1.below hB)⟩
  · rw [show ((op.toNat : Nat) : Int) = 91 by omega]
    exact ⟨_, _, _, po_in _ hL _, fun W' hB => go_far 91 (by simp) _ _ _ s hs A hA n hn arg a1 n1 c1 mo a2 n2 c2 W' (fun W2 hB2 => far_part false 91 rfl s hs A ps ⟨by omega, by omega⟩ hps hpl (max n 1) (by omega) arg a1 n1 c1 mo _ W2 ((hi2.below hB).below hB2)), fun W' hB => dgo_part_false s hs A hA n hn arg ps hps hpl a1 n1 c1 mo _ W' (hi2.below hB)⟩
  · rw [show ((op.toNat : Nat) : Int) = 93 by omega]
    exact ⟨_, _, _, po_in _ hL _, fun W' hB => go_far 93 (by simp) _ _ _ s hs A hA n hn arg a1 n1 c1 mo a2 n2 c2 W' (fun W2 hB2 => far_part true 93 rfl s hs A ps ⟨by omega, by omega⟩ hps hpl (max n 1) (by omega) arg a1 n1 c1 mo _ W2 ((hi2.below hB).below hB2)), fun W' hB => dgo_part_true s hs A hA n hn arg ps hps hpl a1 n1 c1 mo _ W' (hi2.below hB)⟩
  · rw [show ((op.toNat : Nat) : Int) = 39 by omega]
    have h1 : arg.size = 1 := by
      have h := ht.1
      rw [Key.argn_of, if_pos (.inl e), Key.lst_len] at h
      exact h
    refine ⟨_, _, _, ?_, fun W' hB => go_q s hs A hA n hn arg a1 n1 c1 mo a2 n2 c2 W' f (hM.below hB) h1, fun W' hB => dgo_q s hs A hA n hn arg a1 n1 c1 mo a2 n2 c2 W' f (hM.below hB) h1⟩
    intro _
    split
    · exact bnd_in _ _ hL
    · omega
  · rw [show ((op.toNat : Nat) : Int) = 102 by omega]
    have ha : Key.argn op = 2 := by rw [Key.argn_of, if_neg (by omega), if_pos (.inl e)]
    have h2 : arg.size = 2 := by
      have h := ht.1
      rw [ha, Key.lst_len] at h
      exact h
    have hx := ht.2
    rw [ha, Key.lst_two arg h2] at hx
    simp only [List.all_cons, List.all_nil, Bool.and_true, Bool.and_eq_true] at hx
    have g : ∀ c : UInt8, Key.okA 2 c = true → 0 ≤ Dig.dig c.toNat := fun c h => by
      have : Key.hexd c = true := h
      rw [Key.hexd_of] at this
      exact of_decide_eq_true this
    have g0 := g _ hx.1
    have g1 := g _ hx.2
    rw [byteAt_eq arg 0 (by omega)] at g0
    rw [byteAt_eq arg 1 (by omega)] at g1
    exact ⟨_, _, _, fs_in s _ (A + 1) (max n 1), fun W' hB => go_far 102 (by simp) _ _ _ s hs A hA n hn arg a1 n1 c1 mo a2 n2 c2 W' (fun W2 _ => far_f s hs A hA (max n 1) ⟨by omega, by omega⟩ arg h2 g0 g1 a1 n1 c1 mo a2 n2 c2 _ rfl W2), fun W' hB => dgo_f s hs A hA n hn arg a1 n1 c1 mo a2 n2 c2 W' h2 g0 g1 _ rfl⟩
end Go.Proofs.YtgkmjkjcdjkffaaDoor.Mo
