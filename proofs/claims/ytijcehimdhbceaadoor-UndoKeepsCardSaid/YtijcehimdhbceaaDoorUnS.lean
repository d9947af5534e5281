/-
  PROVED HERE: each operation of both trees, one behind the other. Conditions: as each theorem states.
-/
import Derived.Test.YtijcehimdhbceaaDoorUnQ
import Derived.Test.YtijcehimdhbceaaDoorErrB
namespace Go.Proofs.YtijcehimdhbceaaDoor.Un
open Go.RowKit
theorem errno_is (w : World) (n : Int) : Err.ErrIs w (.iface 24 (.int .i64 n)) n (-1) := .inr (.inl ⟨rfl, rfl⟩)
theorem nil_is (w : World) : Err.ErrIs w .nilIface 0 (-1) := .inl ⟨rfl, rfl, rfl⟩
def Pair (W : World) (g g2 k : Nat) (f2 : FuncId) (a2 : Array Value) (e : Ending) (w1 : World) : Prop :=
  ∃ (v : Value) (c : Int), e = .returned v ∧ (∀ w, Err.ErrIs w v c (-1)) ∧ Calls Tryd.prog f2 a2 w1 (fun e2 w2 => e2 = .returned (.int .i64 c) ∧ BothE W w2 g g2 (k + 1))
section
variable {W w : World} {g g2 b cap b2 cap2 d cap3 now t k : Nat} {l : List St} {up tm : List Int}
theorem add_pair (h : Both W w g g2 b cap l b2 cap2 d cap3 up tm now t) (hl : up.length ≤ 200) (ht : t ≤ k) (hk : k ≤ 1000) :
    Calls Tryd.prog 15 #[.pointer (some ⟨g, 0, none⟩), .int .i64 l.length] w (Pair W g g2 k 16 #[.pointer (some ⟨g2, 0, none⟩)]) := by
  have hll := h.ll
  have hin := h.inv.inb
  by_cases hf : 200 ≤ l.length
  · refine (add_no w g b cap l now _ h.pt hf).mono fun e w1 h1 => ⟨_, 12, h1.1, fun w => errno_is w 12, ?_⟩
    refine (docAdd_no w1 g2 b2 cap2 d cap3 up tm now t (h.dtK h1.2.2) (by omega)).mono fun e2 w2 h2 => ⟨h2.1, both_no h hl h1 h2 ht⟩
  · refine (add_yes w g b cap l now _ h.pt (by omega) (by omega)).mono fun e w1 h1 => ?_
    have h1' := h1
    obtain ⟨b', cap', l', rfl, p1, _, _, _, k1, _⟩ := h1'
    refine ⟨_, 0, rfl, fun w => nil_is w, ?_⟩
    refine (docAdd_yes w1 g2 b2 cap2 d cap3 up tm now t (h.dtK k1) h.inv.ups hin (by omega) h.tml (by omega)).mono fun e2 w2 h2 => ?_
    have := both_add h h1 h2 (by omega) ht
    exact ⟨this.2.1, this.2.2⟩
theorem undo_pair (h : Both W w g g2 b cap l b2 cap2 d cap3 up tm now t) (hl : up.length ≤ 200) (ht : t ≤ k) (hk : k ≤ 1000) :
    Calls Tryd.prog 17 #[.pointer (some ⟨g, 0, none⟩)] w (Pair W g g2 k 18 #[.pointer (some ⟨g2, 0, none⟩)]) := by
  have hll := h.ll
  have hin := h.inv.inb
  have hnl : now < l.length := by omega
  have hu : up.getD now (-1) = l[now].up := by
    have e := h.ups
    subst e
    rw [gdl _ _ _ (by simpa using hnl), List.getElem_map]
  by_cases hf : up.getD now (-1) < 0
  · refine (undo_no w g b cap l now h.pt hnl (by omega)).mono fun e w1 h1 => ⟨_, 8, h1.1, fun w => errno_is w 8, ?_⟩
    refine (docUndo_no w1 g2 b2 cap2 d cap3 up tm now t (h.dtK h1.2.2) hin hf).mono fun e2 w2 h2 => ⟨h2.1, both_no h hl h1 h2 ht⟩
  · obtain ⟨p, hp⟩ : ∃ p : Nat, up.getD now (-1) = p := ⟨(up.getD now (-1)).toNat, by omega⟩
    have hpn := (up_lt h.inv.ups now).1
    have hpl : p < l.length := by omega
    refine (undo_yes w g b cap l now p h.pt hnl (by omega) hpl).mono fun e w1 h1 => ⟨_, 0, h1.1, fun w => nil_is w, ?_⟩
    obtain ⟨e1, p1, k1⟩ := h1
    refine (docUndo_yes w1 g2 b2 cap2 d cap3 up tm now t p (h.dtK k1) h.inv.ups hin (by omega) h.tml (by omega) hp).mono fun e2 w2 h2 => ⟨h2.1, both_undo h hl hp hpl ⟨e1, p1, k1⟩ h2 ht⟩
theorem go_pair (h : Both W w g g2 b cap l b2 cap2 d cap3 up tm now t) (hl : up.length ≤ 200) (ht : t ≤ k) (hk : k ≤ 1000) (n : Int) :
    Calls Tryd.prog 21 #[.pointer (some ⟨g, 0, none⟩), .int .i64 n] w (fun e w1 => Pair W g g2 k 22 #[.pointer (some ⟨g2, 0, none⟩), .int .i64 n] e w1 ∧ ∀ (p : Addr) u, p.block ≠ g → p.block ≠ b → w.cell? p = some u → w1.cell? p = some u) := by
  have hll := h.ll
  by_cases hf : n < 0 ∨ (l.length : Int) ≤ n
  · refine (go_no w g b cap l now n h.pt hf).mono fun e w1 h1 => ⟨⟨_, 2, h1.1, fun w => errno_is w 2, ?_⟩, fun p u q1 q2 hc => h1.2.2.cell (fun e => e.elim q1 q2) hc⟩
    refine (docGo_no w1 g2 b2 cap2 d cap3 up tm now t n (h.dtK h1.2.2) (by omega) (by omega)).mono fun e2 w2 h2 => ⟨h2.1, both_no h hl h1 h2 ht⟩
  · obtain ⟨m, rfl⟩ := Int.eq_ofNat_of_zero_le (show 0 ≤ n by omega)
    refine (go_yes w g b cap l up now m h.pt h.ups h.inv.ups (by omega) (by omega)).mono fun e w1 h1 => ?_
    have h1' := h1
    obtain ⟨j, D, e1, p1, _, _, _, k1⟩ := h1'
    refine ⟨⟨_, 0, e1, fun w => nil_is w, ?_⟩, fun p u q1 q2 hc => k1.cell (fun e => e.elim q1 q2) hc⟩
    refine (docGo_yes w1 g2 b2 cap2 d cap3 up tm now t m (h.dtK k1) h.inv.ups (by omega) (by omega) h.tml (by omega)).mono fun e2 w2 h2 => ⟨h2.1, both_go h hl (by omega) h1 h2 ht⟩
theorem redo_pair (h : Both W w g g2 b cap l b2 cap2 d cap3 up tm now t) (hl : up.length ≤ 200) (ht : t ≤ k) (hk : k ≤ 1000) :
    Calls Tryd.prog 19 #[.pointer (some ⟨g, 0, none⟩)] w (Pair W g g2 k 20 #[.pointer (some ⟨g2, 0, none⟩)]) := by
  have hll := h.ll
  have hin := h.inv.inb
  have hnl : now < l.length := by omega
  by_cases hf : l[now].down < 0
  · refine (redo_no w g b cap l now h.pt hnl hf).mono fun e w1 h1 => ⟨_, 8, h1.1, fun w => errno_is w 8, ?_⟩
    obtain ⟨e1, p1, k1⟩ := h1
    refine (docRedo_any w1 g2 b2 cap2 d cap3 up tm now t (h.dtK k1) (by omega) h.tml h.tms).mono fun e2 w2 h2 => (both_redo (w := w) h hl hnl h2 ht).1 ⟨hf, p1, k1⟩
  · obtain ⟨p, hp⟩ : ∃ p : Nat, l[now].down = p := ⟨l[now].down.toNat, by omega⟩
    refine (redo_yes w g b cap l now p h.pt hnl hp).mono fun e w1 h1 => ⟨_, 0, h1.1, fun w => nil_is w, ?_⟩
    obtain ⟨e1, p1, k1⟩ := h1
    refine (docRedo_any w1 g2 b2 cap2 d cap3 up tm now t (h.dtK k1) (by omega) h.tml h.tms).mono fun e2 w2 h2 => (both_redo (w := w) h hl hnl h2 ht).2 p ⟨hp, p1, k1⟩
end
end Go.Proofs.YtijcehimdhbceaaDoor.Un
