/-
  PROVED HERE: motion's Span and the document's tell the same, at every command. Conditions: as each theorem states.
-/
import Derived.Test.YtgkmjkjcdjkffaaDoorMoN
namespace Go.Proofs.YtgkmjkjcdjkffaaDoor.Mo
open Go.RowKit
def AlikeS (reg op mv : Int) (n : Nat) (arg s : ByteArray) (A : Nat) (a1 : Option Addr) (n1 c1 : Nat) (mo : Option Nat) (a2 : Option Addr) (n2 c2 : Nat) (W : World) : Prop :=
  ∃ F T C : Int,
    (∀ W', Below W.heap.size W W' → Calls Tryd.prog 10 #[.agg #[.string s, .int .i64 (A : Int), .slice a1 n1 c1, .map mo, .slice a2 n2 c2], .agg #[.int .u8 reg, .int .i64 n, .int .u8 op, .int .u8 mv, .string arg]] W' (SpP F T C W')) ∧
    (∀ W', Below W.heap.size W W' → Calls Tryd.prog 9 #[.agg #[.string s, .int .i64 (A : Int), .slice a1 n1 c1, .map mo, .slice a2 n2 c2], .agg #[.int .u8 reg, .int .i64 n, .int .u8 op, .int .u8 mv, .string arg]] W' (SdP F T C W'))
theorem alikeS_any (reg : Int) (op mv : UInt8) (arg : ByteArray) (h : mv = op ∨ (Key.mv mv = true ∧ Key.tlOk mv (Key.lst arg))) (s : ByteArray) (hs : s.size ≤ 1000) (A : Nat) (hAL : A = 0 ∨ A < s.size) (n : Nat) (hn : n ≤ 9999)
    (ms ps : List Int) (hml : ms.length ≤ 1000000) (hmb : ∀ x ∈ ms, -9223372036854775808 ≤ x ∧ x ≤ 9223372036854775807) (hpl : ps.length ≤ 100000) (hps : ∀ x ∈ ps, 0 ≤ x ∧ x ≤ s.size)
    (a1 : Option Addr) (n1 c1 : Nat) (mo : Option Nat) (a2 : Option Addr) (n2 c2 : Nat) (f : Nat → Int × Bool) (W : World) (hi1 : Ints W (.slice a1 n1 c1) ms) (hi2 : Ints W (.slice a2 n2 c2) ps) (hM : Marks W mo f) :
    AlikeS reg (op.toNat : Int) (mv.toNat : Int) n arg s A a1 n1 c1 mo a2 n2 c2 W := by
  have hA : A ≤ s.size := by omega
  by_cases e : mv = op
  · subst e
    exact ⟨_, _, _, fun W' _ => span_row reg _ s hs A hA n hn arg a1 n1 c1 mo a2 n2 c2 _ _ rfl rfl W', fun W' _ => dspan_row reg _ s hs A hA n hn arg a1 n1 c1 mo a2 n2 c2 _ _ rfl rfl W'⟩
  · have h2 : Key.mv mv = true ∧ Key.tlOk mv (Key.lst arg) := h.resolve_left e
    obtain ⟨N, b, c, h3, h4, h5⟩ := alike_any mv h2.1 arg h2.2 s hs A hAL n hn ms ps hml hmb hpl hps a1 n1 c1 mo a2 n2 c2 f W hi1 hi2 hM
    have hne : ((mv.toNat : Nat) : Int) ≠ ((op.toNat : Nat) : Int) := fun g => e (UInt8.toNat_inj.1 (by omega))
    exact ⟨_, _, _, fun W' hB => span_go reg _ _ hne s hs A hA n arg a1 n1 c1 mo a2 n2 c2 N b c h3 W' (fun W2 hB2 => h4 W2 (hB.trans (hB2.mono hB.size))), fun W' hB => dspan_go reg _ _ hne s hs A hA n hn arg a1 n1 c1 mo a2 n2 c2 N b c h3 W' (fun W2 hB2 => h5 W2 (hB.trans (hB2.mono hB.size)))⟩
end Go.Proofs.YtgkmjkjcdjkffaaDoor.Mo
