/-
  PROVED HERE: a range over a function that keeps what it has come to in cells of its own (strings.SplitSeq): what its caller owes. Conditions: as each theorem states.
-/
import Derived.RangeFuncNested
import Derived.RangeFuncBox
import Derived.RangeFuncBound
import Derived.RangeFuncCalls
import Derived.RangeFuncLeaves
import Derived.Shelf.Abstract
import Derived.Shelf.RegionOpen
import Derived.WalkKit
import Derived.OwnWalkIn
import Derived.TacticsInMore
import Derived.LoopNIn
import Derived.LoopIn
import Derived.Test.YtehmnohkfchljaaDoorOwn
namespace Go.Proofs.YtehmnohkfchljaaDoor.Seq
open Go.RowKit Go.Shelf
section
variable {α : Type} {F : Fence} {n : Nat} {P : Program}
/-- The iterator's contract: X comes, one by one; between two rounds it turns its own cells alone (Tn), and reads what a round keeps (Kp). -/
def SeqOwn (F : Fence) (n : Nat) (P : Program) (g : Nat) (lb : Array Value) (X : List α) (encs : α → Array Value) (Tn Kp : World → World → Prop) (G : World → Prop) : Prop :=
  ∀ (l : Nat) (J Jx : Nat → World → Prop) (W : World), G W → (∀ k A B, J k A → Tn A B → J k B) →
    (∀ k (h : k < X.length) A, J k A → YieldAt F (n - 1) P l (encs X[k]) A fun e B => (e = .returned (.bool true) ∧ J (k + 1) B ∧ Kp A B) ∨ (e = .returned (.bool false) ∧ Jx k B)) →
    J 0 W → CallsIn F n P g (#[.func (.yield l) #[] #[]] ++ lb) W fun e B => (∃ v, e = .returned v) ∧ (J X.length B ∨ ∃ k, k < X.length ∧ Jx k B)
/-- How a round's body may be left. -/
def rndP (B : Nat) (Kp : World → World → Prop) (I Ix : Nat → World → Prop) (k : Nat) (A : World) : Exit → Act → World → Prop
  | .normal, _, C => KeepsFrom B A C ∧ Kp A C ∧ I (k + 1) C
  | .ret, _, C => KeepsFrom B A C ∧ Ix k C
  | _, _, _ => False
theorem wpIn_rangeFunc_seq {g : Operand} {ps : Array Tmp} {assign body : Code} {Q : Exit → Act → World → Prop} {a : Act} {w : World}
    (hro : F.round = none) (h1 : 1 ≤ n) {gf : Nat} {lb : Array Value} (hg : a.eval g = .func (.func gf) #[] lb) (hFg : F.fn gf) (eg : Enters P gf)
    {X : List α} {encs : α → Array Value} {Tn Kp : World → World → Prop} {G : World → Prop} (hseq : SeqOwn F (n - 1) P gf lb X encs Tn Kp G)
    (hT : ∀ A B, Tn A B → KeepsOthers A B) (hKt : ∀ {A B C : World}, Kp A B → Kp B C → Kp A C) (hKb : ∀ (A : World) (l : Nat) (o o' : Obj), w.heap.size ≤ l → A.heap[l]? = some o → o.isCells = false → Kp A (A.putObj l o'))
    (hG : ∀ o o', G ((w.alloc o).alloc o')) (hps : ∀ x, (encs x).size = ps.size)
    (I Ix : Nat → World → Prop) (hI : OwnFrom w.heap.size I) (hIx : OwnFrom w.heap.size Ix) (hIT : ∀ k A B, I k A → Tn A B → I k B) (h0 : I 0 w) (a₁ : α → Act)
    (hassign : ∀ (l : Nat) (x : α) (A : World) (K : Act → World → Prop), K (a₁ x) A →
      assign.wpIn (F.inRound l) (n - 1 - 1) P (Exit.then K (fun _ _ _ => False)) { tmps := (ps.zip (encs x)).foldl (fun t (p, v) => t.setIfInBounds p v) a.tmps, defers := [] } A)
    (hbody : ∀ (l k : Nat) (h : k < X.length) (A : World), I k A → body.wpIn (F.inRound l) (n - 1 - 1) P (rndP w.heap.size Kp I Ix k A) (a₁ X[k]) A)
    (hdone : ∀ (D : Nat) (A : World), w.heap.size ≤ D → I X.length A → A.heap[D]? = some (.deferred (some [])) → Q .normal { a with defers := { target := .collected D, args := #[] } :: a.defers } A)
    (hstop : ∀ (D k : Nat) (A : World), w.heap.size ≤ D → k < X.length → Ix k A → A.heap[D]? = some (.deferred (some [])) → Code.ret.wpIn F n P Q { a with defers := { target := .collected D, args := #[] } :: a.defers } A) :
    (Code.rangeFunc g ps assign body).wpIn F n P Q a w := by
  refine wpIn_rangeFunc fun fn hfn => ?_
  rw [hro]
  -- the loop's record, in the state s, the jump j pending
  obtain ⟨R, hR⟩ : ∃ R : LoopState → Option Code → Loop, R = fun s j => ⟨s, j, fn, a.tmps, ps, assign, body, w.heap.size⟩ := ⟨_, rfl⟩
  -- what the law itself has laid
  let Laid (s : LoopState) (j : Option Code) (A : World) : Prop := A.heap[w.heap.size + 1]? = some (.loop (R s j)) ∧ A.heap[w.heap.size]? = some (.deferred (some []))
  have laid_turn : ∀ s j A B, Laid s j A → Tn A B → Laid s j B := fun s j A B h t => ⟨(hT _ _ t).same _ _ h.1 rfl, (hT _ _ t).same _ _ h.2 rfl⟩
  have laid_keeps : ∀ s j A B, Laid s j A → KeepsFrom w.heap.size A B → Laid s j B := fun s j A B h t => ⟨t.same _ _ (by omega) h.1 rfl, t.same _ _ (Nat.le_refl _) h.2 rfl⟩
  have laid_put : ∀ s j s' j' A, Laid s j A → Laid s' j' (A.putObj (w.heap.size + 1) (.loop (R s' j'))) := fun s j s' j' A h =>
    ⟨World.putObj_heap_same (Array.getElem?_eq_some_iff.1 h.1).1, (World.putObj_heap_other (by omega)).trans h.2⟩
  have ends : ∀ (j : Option Code) (A : World), Laid .busy none A → (Instr.endRound (w.heap.size + 1) j).run P A = .ok (.bool j.isNone) (A.putObj (w.heap.size + 1) (.loop (R (if j.isNone then .ready else .done) j))) := fun j A h => by
    have := run_endRound (P := P) j h.1
    rw [hR] at this ⊢
    exact this
  have hW1 : Laid .ready none ((w.alloc (.deferred (some []))).alloc (.loop (R .ready none))) := by
    have e1 := World.alloc_heap_new (w.alloc (.deferred (some []))) (.loop (R .ready none))
    rw [World.size_alloc] at e1
    exact ⟨e1, (Below.heap_alloc _ _ _ (by simp)).trans (World.alloc_heap_new w _)⟩
  have hI1 : I 0 ((w.alloc (.deferred (some []))).alloc (.loop (R .ready none))) := hI.alloc _ (hI.alloc _ h0)
  have hG1 := hG (.deferred (some [])) (.loop (R .ready none))
  have hE : (Instr.enterLoop fn a.tmps ps assign body none).run P w = .ok (w.heap.size + 1, [{ target := .collected w.heap.size, args := #[] }]) ((w.alloc (.deferred (some []))).alloc (.loop (R .ready none))) := by
    rw [hR]; exact run_enterLoop_outer _ _ _ _ _
  generalize (w.alloc (.deferred (some []))).alloc (.loop (R .ready none)) = W1 at *
  refine ⟨w.heap.size + 1, [{ target := .collected w.heap.size, args := #[] }], W1, { target := .fn (.func gf) lb, args := #[.func (.yield (w.heap.size + 1)) #[] #[]] }, W1, gf, #[.func (.yield (w.heap.size + 1)) #[] #[]] ++ lb, W1, hE, ?_, ?_, ?_, fun _ => h1, ?_⟩
  · simp only [resolve, hg]
    simp [go_sem]
  · intro f' hf'
    simp [Target.leads] at hf'
    subst hf'
    exact hFg
  · have := eg (#[.func (.yield (w.heap.size + 1)) #[] #[]] ++ lb) W1
    simp [invoke, go_sem]
    simpa using this
  refine (hseq (w.heap.size + 1) (fun k A => I k A ∧ Laid .ready none A) (fun k A => Ix k A ∧ Laid .done (some .ret) A) _ hG1 (fun k A B h t => ⟨hIT k A B h.1 t, laid_turn _ _ _ _ h.2 t⟩) ?_ ⟨hI1, hW1⟩).mono ?_
  · rintro k hk A ⟨hi, hl⟩
    have hy := run_yield (P := P) (args := encs X[k]) hl.1 (by rw [hR]; exact hps _)
    rw [hR] at hy
    refine ⟨fn, _, assign, body, hy, roundIn_of_wpIn hfn (hassign _ X[k] A _ ⟨A.putObj (w.heap.size + 1) (.loop (R .busy none)), ?_, ?_⟩)⟩
    · have := run_beginRound (P := P) hl.1 (by rw [hR])
      rw [hR] at this ⊢
      exact this
    · have hb := laid_put .ready none .busy none A hl
      refine wpIn_mono (hbody _ k hk _ (hI.putObj _ hi (by omega) hl.1 rfl)) ?_
      have kb : Kp A (A.putObj (w.heap.size + 1) (.loop (R .busy none))) := hKb _ _ _ _ (by omega) hl.1 rfl
      rintro e a3 C hp
      cases e with
      | normal =>
        obtain ⟨h1, h2, h3⟩ := hp
        have hc := laid_keeps _ _ _ _ hb h1
        exact ⟨_, _, ends none C hc, .inl ⟨rfl, ⟨hI.putObj _ h3 (by omega) hc.1 rfl, laid_put _ _ .ready none C hc⟩, hKt (hKt kb h2) (hKb _ _ _ _ (by omega) hc.1 rfl)⟩⟩
      | ret =>
        obtain ⟨h1, h2⟩ := hp
        have hc := laid_keeps _ _ _ _ hb h1
        exact ⟨_, _, ends (some .ret) C hc, .inr ⟨rfl, hIx.putObj _ h2 (by omega) hc.1 rfl, laid_put _ _ .done (some .ret) C hc⟩⟩
      | exit id => exact hp.elim
      | goto t => exact hp.elim
      | panic ch => exact hp.elim
      | outgrown => exact hp.elim
  · rintro e B ⟨⟨v, rfl⟩, (⟨hi, hl⟩ | ⟨k, hk, hi, hl⟩)⟩
    · refine ⟨none, B.putObj (w.heap.size + 1) (.loop (R .exhausted none)), ?_, hdone _ _ (Nat.le_refl _) (hI.putObj _ hi (by omega) hl.1 rfl) ((World.putObj_heap_other (by omega)).trans hl.2)⟩
      have := run_endLoop (P := P) hl.1 (by rw [hR]; simp)
      rw [hR] at this ⊢
      exact this
    · refine ⟨some .ret, B.putObj (w.heap.size + 1) (.loop (R .exhausted (some .ret))), ?_, hstop _ k _ (Nat.le_refl _) hk (hIx.putObj _ hi (by omega) hl.1 rfl) ((World.putObj_heap_other (by omega)).trans hl.2)⟩
      have := run_endLoop (P := P) hl.1 (by rw [hR]; simp)
      rw [hR] at this ⊢
      exact this
end
end Go.Proofs.YtehmnohkfchljaaDoor.Seq
