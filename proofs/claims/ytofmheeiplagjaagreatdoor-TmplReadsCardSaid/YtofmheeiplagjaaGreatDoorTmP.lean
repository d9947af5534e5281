/-
  PROVED HERE: the contract of the document's templates (their memory). Conditions: as each theorem states.
-/
import Derived.Test.YtofmheeiplagjaaGreatDoorTmN
import Derived.Test.YtofmheeiplagjaaGreatDoorTmO
namespace Go.Proofs.YtofmheeiplagjaaGreatDoor.Tm
open Go.RowKit Go.Proofs.YtofmheeiplagjaaGreatDoor.Lex Go.Proofs.YtofmheeiplagjaaGreatDoor.Dig
structure Ty where
  name : ByteArray
  at_ : Nat
  items : List It
abbrev Tv := Ty × Value
def Tv.vals (p : Tv) : List Value := [.string p.1.name, .int .i64 p.1.at_, p.2]
def tvCells (l : List Tv) : List Value := l.flatMap Tv.vals
theorem tvCells_len (l : List Tv) : (tvCells l).length = l.length * 3 := by
  induction l with
  | nil => rfl
  | cons e r ih => rw [tvCells, List.flatMap_cons, List.length_append, ← tvCells, ih, List.length_cons]; simp [Tv.vals]; omega
theorem tvCells_snoc (l : List Tv) (e : Tv) : tvCells l ++ e.vals = tvCells (l ++ [e]) := by simp [tvCells]
theorem tvCells_get (l : List Tv) (j i : Nat) (hj : j < l.length) (hi : i < 3) : (tvCells l)[j * 3 + i]? = l[j].vals[i]? := by
  induction l generalizing j with
  | nil => simp at hj
  | cons e r ih =>
    have he : e.vals.length = 3 := rfl
    rw [tvCells, List.flatMap_cons, ← tvCells]
    cases j with
    | zero =>
      rw [Nat.zero_mul, Nat.zero_add, List.getElem?_append_left (by omega)]
      rfl
    | succ j =>
      rw [List.getElem?_append_right (by omega), show (j + 1) * 3 + i - e.vals.length = j * 3 + i by omega]
      rw [ih j (by simpa using hj)]
      rfl
def OwnY (w : World) (B : Nat) (v : Value) (l : List Tv) : Prop := w.ownsRow B 50 3 v l.length (tvCells l)
theorem ownY_nil (w : World) (B : Nat) : OwnY w B (.slice none 0 0) [] := World.ownsRow_nil w B _ 3
theorem OwnY.alloc {w : World} {B : Nat} {v : Value} {l : List Tv} (h : OwnY w B v l) (o : Obj) : OwnY (w.alloc o) B v l := World.ownsRow.alloc h o
theorem OwnY.len {w : World} {B : Nat} {v : Value} {l : List Tv} (h : OwnY w B v l) : ∃ a cap, v = .slice a l.length cap := by
  rcases h.2 with ⟨rfl, h0⟩ | ⟨g, cap, cur, rfl, _⟩
  · exact ⟨none, 0, by rw [h0]⟩
  · exact ⟨_, _, rfl⟩
theorem OwnY.grown {w w' : World} {B G : Nat} {v : Value} {l : List Tv} (h : OwnY w B v l) (hg : w.grownBy w' (some G)) (hG : v.ownBlock ≠ some G) : OwnY w' B v l :=
  World.ownsRow.kept (row := some G) h ⟨hg.os, hg.tape, hg.output, hg.size, fun k hk hr => hg.block k hk hr⟩ (.inr hG)
theorem infoType : (Tryz.prog.info? 50).map (fun i => (i.zero, i.size, i.bytes)) = some (some (.agg #[.string ⟨#[]⟩, .int .i64 0, .slice none 0 0]), 3, 48) := by kernel_rfl
section
variable {w : World}
theorem ownY_append1 {ops : Array Oper} {rest : List Oper} {o : Oper} {a : Act} {Q : Exit → Act → World → Prop} (hgd : o.guard = none) (s x : Operand)
    (ho : o.op = .call { callee := .builtin .append, args := #[s, x], argTypes := #[43, 43] })
    (B : Nat) (v : Value) (l : List Tv) (hs : a.eval s = v) (hown : OwnY w B v l)
    (g c : Nat) (e : Tv) (hx : a.eval x = .slice (some ⟨g, 0, none⟩) 1 c) (hnew : w.heap[g]? = some (.cells e.vals.toArray 50 (0, 0)))
    (h1 : e.2.oneCell' = true)
    (hlen : l.length + 1 ≤ 1000000) (hbase : B ≤ w.heap.size)
    (h : ∀ v' w', OwnY w' B v' (l ++ [e]) → w.grownBy w' v.ownBlock → Below B w w' → (v'.ownBlock = v.ownBlock ∨ v'.ownBlock = some w.heap.size) → wpList Tryz.prog ops Q rest (a.put o.dst v') w') : wpList Tryz.prog ops Q (o :: rest) a w := by
  obtain ⟨i, hi, hz0, hz1, hz2⟩ := info_parts infoType
  have hl : e.vals.length = 3 := rfl
  refine wpList_append_own_at w hgd s x 43 ho B 50 i _ 3 48 Tryz.underlying43 hi hz0 hz1 hz2 rfl (by decide) v l.length (tvCells l) hs hown ⟨g, 0, none⟩ 1 c e.vals hx (by rw [hl]) ?_ ?_ (by unfold maxLen; omega) (by omega) hbase ?_
  · intro j u hu
    rw [Addr.add_mid, Nat.zero_add]
    unfold World.cell?
    rw [hnew]
    simpa using hu
  · intro u hu
    simp only [Tv.vals, List.mem_cons, List.mem_nil_iff, or_false] at hu
    rcases hu with rfl | rfl | rfl <;> first | rfl | exact h1
  · intro v' w' h2 h3 _ h5
    refine h v' w' ?_ h3 ((Below.refl B w).grown h3 hbase (fun k hk => (World.ownsRow.lt hown k hk).1)) h5
    unfold OwnY
    rw [List.length_append, ← tvCells_snoc]
    exact h2
end
def AllY (l : List Tv) (w : World) : Prop := ∀ p ∈ l, ItsAt w p.2 p.1.items
theorem awY_nil (lo : Nat) (row : Option Nat) (w : World) : Aw lo row w (AllY []) := fun _ _ p hp => by simp at hp
theorem awY_next {lo G : Nat} {wr w1 w2 w3 : World} {v v2 : Value} {l : List Tv} {p : Tv} (h : Aw lo v.ownBlock wr (AllY l)) (hp : ItsF wr.heap.size w1 p.1.items p.2)
    (hvb : ∀ k, v.ownBlock = some k → k < wr.heap.size) (hlo : lo ≤ wr.heap.size)
    (g1 : wr.grownBy w1 (some G)) (hG : G < lo) (g2 : Below w1.heap.size w1 w2) (g3 : w2.grownBy w3 v.ownBlock) (hat : v2.ownBlock = v.ownBlock ∨ v2.ownBlock = some w2.heap.size) : Aw lo v2.ownBlock w3 (AllY (l ++ [p])) := by
  intro w4 h4
  have s1 := g1.size
  have s2 := g2.size
  have s3 := g3.size
  have hne : ∀ k, k < w2.heap.size → some k ≠ v.ownBlock → some k ≠ v2.ownBlock := by
    intro k hk hn
    rcases hat with e | e
    · rw [e]; exact hn
    · rw [e]; intro e2; simp only [Option.some.injEq] at e2; omega
  intro q hq
  rcases List.mem_append.1 hq with hq | hq
  · refine h w4 (fun k hk1 hk2 hk3 => ?_) q hq
    rw [h4 k hk1 (by omega) (hne k (by omega) hk3), g3.block k (by omega) hk3, g2.block k (by omega), g1.block k hk2 (fun e => by simp only [Option.some.injEq] at e; omega)]
  · rw [List.mem_singleton] at hq
    subst hq
    refine hp w4 fun k hk1 hk2 => ?_
    have hk3 : some k ≠ v.ownBlock := fun e => by have := hvb k e.symm; omega
    rw [h4 k (by omega) (by omega) (hne k (by omega) hk3), g3.block k (by omega) hk3, g2.block k (by omega)]
/-- The slice v shows the templates l. -/
def TysAt (w : World) (v : Value) (l : List Ty) : Prop := ∃ a cap, v = .slice a l.length cap ∧ l.length ≤ cap ∧ ∀ i (h : i < l.length), ∃ ad iv, a = some ad ∧ w.cell? (ad.add (i * 3 + 0)) = some (.string l[i].name) ∧ w.cell? (ad.add (i * 3 + 1)) = some (.int .i64 (l[i].at_ : Nat)) ∧ w.cell? (ad.add (i * 3 + 2)) = some iv ∧ ItsAt w iv l[i].items
def TysF (lo : Nat) (w : World) (l : List Ty) (v : Value) : Prop := Fw lo w fun w2 => TysAt w2 v l
theorem tys_of {lo : Nat} {w : World} {v : Value} {l : List Tv} (ho : OwnY w lo v l) (h : Aw lo v.ownBlock w (AllY l)) : TysF lo w (l.map (·.1)) v := by
  intro w2 h2
  have hA := h w2 (fun k h3 h4 _ => h2 k h3 h4)
  rcases ho.2 with ⟨rfl, h0⟩ | ⟨g, cap, cur, rfl, hg0, hg, hcp, _⟩
  · obtain rfl : l = [] := List.eq_nil_of_length_eq_zero h0
    exact ⟨none, 0, rfl, Nat.le_refl _, fun i hi => absurd hi (Nat.not_lt_zero i)⟩
  · refine ⟨some ⟨g, 0, none⟩, cap, by simp, by simpa using hcp, fun i hi => ?_⟩
    have hi' : i < l.length := by simpa using hi
    have hlt : g < w.heap.size := (Array.getElem?_eq_some_iff.1 hg).1
    have hc : ∀ m x, l[i].vals[m]? = some x → m < 3 → w2.cell? (Addr.add ⟨g, 0, none⟩ (i * 3 + m)) = some x := by
      intro m x hm hm3
      refine Eq.trans (World.cell?_of_block ?_) (World.ownsRow.cells ho (g := g) rfl (i * 3 + m) x (by rw [tvCells_get l i m hi' hm3]; exact hm))
      rw [show ((⟨g, 0, none⟩ : Addr).add (i * 3 + m)).block = g by unfold Addr.add; split <;> rfl]
      exact h2 g hg0 hlt
    simp only [List.getElem_map]
    exact ⟨_, l[i].2, rfl, hc 0 _ rfl (by omega), hc 1 _ rfl (by omega), hc 2 _ rfl (by omega), hA _ (List.getElem_mem hi')⟩
/-- A template's box. -/
def YB (w : World) (X : Nat) (vs : List Value) : Prop := w.heap[X]? = some (.cells vs.toArray 50)
theorem YB.cell {w : World} {X : Nat} {vs : List Value} (h : YB w X vs) (j : Nat) : w.cell? ⟨X, j, none⟩ = vs[j]? := by
  unfold World.cell?
  rw [h]
  simp
theorem YB.free {w : World} {X : Nat} {vs : List Value} (h : YB w X vs) (j : Nat) : w.frozen? ⟨X, j, none⟩ = false := by
  unfold World.frozen?
  rw [h]
  rfl
theorem YB.set {w : World} {X : Nat} {vs : List Value} (h : YB w X vs) (j : Nat) (v : Value) : YB (w.setCell ⟨X, j, none⟩ v) X (vs.set j v) := by
  unfold YB at h ⊢
  simp [World.setCell, Array.getElem?_modify, h]
theorem YB.grown {w w' : World} {X G : Nat} {vs : List Value} (h : YB w X vs) (hg : w.grownBy w' (some G)) (hne : X ≠ G) : YB w' X vs :=
  (hg.block X (Array.getElem?_eq_some_iff.1 h).1 (fun e => hne (by injection e))).trans h
/-- The memory of a round: the eyes, the template's box. -/
structure YS (wr : World) (G E X : Nat) (lv : Value) (τ : Ey) (vs : List Value) (w : World) : Prop where
  ps : PS G E lv τ w
  gb : wr.grownBy w (some G)
  bx : YB w X vs
  hX : wr.heap.size ≤ X
  hG : G < wr.heap.size
theorem YS.step {wr : World} {G E X : Nat} {lv : Value} {τ τ' : Ey} {vs : List Value} {w w' : World} (h : YS wr G E X lv τ vs w) (hs : StP G E τ' w w') : ∃ lv', YS wr G E X lv' τ' vs w' := by
  obtain ⟨⟨lv', hp⟩, hg⟩ := hs
  have a := h.hG
  have b := h.hX
  exact ⟨lv', hp, gb_trans h.gb hg, h.bx.grown hg (by omega), b, a⟩
theorem YS.set {wr : World} {G E X : Nat} {lv : Value} {τ : Ey} {vs : List Value} {w : World} (h : YS wr G E X lv τ vs w) (j : Nat) (v : Value) : YS wr G E X lv τ (vs.set j v) (w.setCell ⟨X, j, none⟩ v) :=
  ⟨ps_other h.ps (by have := h.hG; have := h.hX; omega), gb_set_new h.gb h.hX, h.bx.set j v, h.hX, h.hG⟩
end Go.Proofs.YtofmheeiplagjaaGreatDoor.Tm
