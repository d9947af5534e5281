/-
  PROVED HERE: lists of items that a call owns, append of one, what hangs on them kept; the document's map of widths, made and asked; what the words for numbers begin with; the contract of the document's eyes' item (its memory). Conditions: as each theorem states.
-/
import Derived.Test.YtkopjmofdnlplaaGreatDoorTmJ
import Derived.Deep.Slices
import Derived.Maps.OwnSet
import Derived.Maps.Views
import Derived.Deep.DeepCutAuto
import Derived.Deep.CutBlock
namespace Go.Proofs.YtkopjmofdnlplaaGreatDoor.Tm
open Go.RowKit Go.Proofs.YtkopjmofdnlplaaGreatDoor.Lex Go.Proofs.YtkopjmofdnlplaaGreatDoor.Dig
abbrev Iv := It × Value × Value
def Iv.vals (p : Iv) : List Value := itVals p.1 p.2.1 p.2.2
def ivCells (l : List Iv) : List Value := l.flatMap Iv.vals
theorem ivCells_len (l : List Iv) : (ivCells l).length = l.length * 13 := by
  induction l with
  | nil => rfl
  | cons e r ih => rw [ivCells, List.flatMap_cons, List.length_append, ← ivCells, ih, List.length_cons]; simp [Iv.vals, itVals]; omega
theorem ivCells_snoc (l : List Iv) (e : Iv) : ivCells l ++ e.vals = ivCells (l ++ [e]) := by simp [ivCells]
theorem ivCells_get (l : List Iv) (j i : Nat) (hj : j < l.length) (hi : i < 13) : (ivCells l)[j * 13 + i]? = l[j].vals[i]? := by
  induction l generalizing j with
  | nil => simp at hj
  | cons e r ih =>
    have he : e.vals.length = 13 := rfl
    rw [ivCells, List.flatMap_cons, ← ivCells]
    cases j with
    | zero =>
      rw [Nat.zero_mul, Nat.zero_add, List.getElem?_append_left (by omega)]
      rfl
    | succ j =>
      rw [List.getElem?_append_right (by omega), show (j + 1) * 13 + i - e.vals.length = j * 13 + i by omega]
      rw [ih j (by simpa using hj)]
      rfl
def OwnI (w : World) (B : Nat) (v : Value) (l : List Iv) : Prop := w.ownsRow B 78 13 v l.length (ivCells l)
theorem ownI_nil (w : World) (B : Nat) : OwnI w B (.slice none 0 0) [] := World.ownsRow_nil w B _ 13
theorem OwnI.alloc {w : World} {B : Nat} {v : Value} {l : List Iv} (h : OwnI w B v l) (o : Obj) : OwnI (w.alloc o) B v l := World.ownsRow.alloc h o
theorem OwnI.len {w : World} {B : Nat} {v : Value} {l : List Iv} (h : OwnI w B v l) : ∃ a cap, v = .slice a l.length cap := by
  rcases h.2 with ⟨rfl, h0⟩ | ⟨g, cap, cur, rfl, _⟩
  · exact ⟨none, 0, by rw [h0]⟩
  · exact ⟨_, _, rfl⟩
theorem OwnI.grown {w w' : World} {B G : Nat} {v : Value} {l : List Iv} (h : OwnI w B v l) (hg : w.grownBy w' (some G)) (hG : v.ownBlock ≠ some G) : OwnI w' B v l :=
  World.ownsRow.kept (row := some G) h ⟨hg.os, hg.tape, hg.output, hg.size, fun k hk hr => hg.block k hk hr⟩ (.inr hG)
theorem infoItem : (Tryz.prog.info? 78).map (fun i => (i.zero, i.size, i.bytes)) = some (some (.agg (itVals (.mk 0 0 ⟨#[]⟩ ⟨#[]⟩ 0 0 false false none 0 ⟨#[]⟩ ⟨#[]⟩ []) (.pointer none) (.slice none 0 0)).toArray), 13, 144) := by kernel_rfl
section
variable {w : World}
theorem ownI_append1 {ops : Array Oper} {rest : List Oper} {o : Oper} {a : Act} {Q : Exit → Act → World → Prop} (hgd : o.guard = none) (s x : Operand)
    (ho : o.op = .call { callee := .builtin .append, args := #[s, x], argTypes := #[68, 68] })
    (B : Nat) (v : Value) (l : List Iv) (hs : a.eval s = v) (hown : OwnI w B v l)
    (g c : Nat) (e : Iv) (hx : a.eval x = .slice (some ⟨g, 0, none⟩) 1 c) (hnew : w.heap[g]? = some (.cells e.vals.toArray 78 (0, 0)))
    (h1 : e.2.1.oneCell' = true) (h2 : e.2.2.oneCell' = true)
    (hlen : l.length + 1 ≤ 1000000) (hbase : B ≤ w.heap.size)
    (h : ∀ v' w', OwnI w' B v' (l ++ [e]) → w.grownBy w' v.ownBlock → Below B w w' → (v'.ownBlock = v.ownBlock ∨ v'.ownBlock = some w.heap.size) → wpList Tryz.prog ops Q rest (a.put o.dst v') w') : wpList Tryz.prog ops Q (o :: rest) a w := by
  obtain ⟨i, hi, hz0, hz1, hz2⟩ := info_parts infoItem
  have hl : e.vals.length = 13 := rfl
  refine wpList_append_own_at w hgd s x 68 ho B 78 i _ 13 144 Tryz.underlying68 hi hz0 hz1 hz2 rfl (by decide) v l.length (ivCells l) hs hown ⟨g, 0, none⟩ 1 c e.vals hx (by rw [hl]) ?_ ?_ (by unfold maxLen; omega) (by omega) hbase ?_
  · intro j u hu
    rw [Addr.add_mid, Nat.zero_add]
    unfold World.cell?
    rw [hnew]
    simpa using hu
  · intro u hu
    simp only [Iv.vals, itVals, List.mem_cons, List.mem_nil_iff, or_false] at hu
    rcases hu with rfl | rfl | rfl | rfl | rfl | rfl | rfl | rfl | rfl | rfl | rfl | rfl | rfl <;> first | rfl | exact h1 | exact h2
  · intro v' w' h2 h3 _ h5
    refine h v' w' ?_ h3 ((Below.refl B w).grown h3 hbase (fun k hk => (World.ownsRow.lt hown k hk).1)) h5
    unfold OwnI
    rw [List.length_append, ← ivCells_snoc]
    exact h2
end
/-- What holds of w, and of each world that has the same blocks from lo on, but for the row. -/
def Aw (lo : Nat) (row : Option Nat) (w : World) (P : World → Prop) : Prop := ∀ w2 : World, (∀ k, lo ≤ k → k < w.heap.size → some k ≠ row → w2.heap[k]? = w.heap[k]?) → P w2
def AllI (l : List Iv) (w : World) : Prop := ∀ p ∈ l, ItAt w p.1 p.2.1 p.2.2
def ItF (lo : Nat) (w : World) (x : It) (cv iv : Value) : Prop := Fw lo w fun w2 => ItAt w2 x cv iv
def ItsF (lo : Nat) (w : World) (l : List It) (v : Value) : Prop := Fw lo w fun w2 => ItsAt w2 v l
theorem aw_nil (lo : Nat) (row : Option Nat) (w : World) : Aw lo row w (AllI []) := fun _ _ p hp => by simp at hp
/-- One item more: what hung on the others, and on it, still does. -/
theorem aw_next {lo G : Nat} {wr w1 w2 w3 : World} {v v2 : Value} {l : List Iv} {p : Iv} (h : Aw lo v.ownBlock wr (AllI l)) (hp : ItF wr.heap.size w1 p.1 p.2.1 p.2.2)
    (hvb : ∀ k, v.ownBlock = some k → k < wr.heap.size) (hlo : lo ≤ wr.heap.size)
    (g1 : wr.grownBy w1 (some G)) (hG : G < lo) (g2 : Below w1.heap.size w1 w2) (g3 : w2.grownBy w3 v.ownBlock) (hat : v2.ownBlock = v.ownBlock ∨ v2.ownBlock = some w2.heap.size) : Aw lo v2.ownBlock w3 (AllI (l ++ [p])) := by
  intro w4 h4
  have s1 := g1.size
  have s2 := g2.size
  have s3 := g3.size
  have hne : ∀ k, k < w2.heap.size → some k ≠ v.ownBlock → some k ≠ v2.ownBlock := by
    intro k hk hn
    rcases hat with e | e
    · rw [e]; exact hn
    · rw [e]; intro e2; simp only [Option.some.injEq] at e2; omega
  intro q hq
  rcases List.mem_append.1 hq with hq | hq
  · refine h w4 (fun k hk1 hk2 hk3 => ?_) q hq
    rw [h4 k hk1 (by omega) (hne k (by omega) hk3), g3.block k (by omega) hk3, g2.block k (by omega), g1.block k hk2 (fun e => by simp only [Option.some.injEq] at e; omega)]
  · rw [List.mem_singleton] at hq
    subst hq
    refine hp w4 fun k hk1 hk2 => ?_
    have hk3 : some k ≠ v.ownBlock := fun e => by have := hvb k e.symm; omega
    rw [h4 k (by omega) (by omega) (hne k (by omega) hk3), g3.block k (by omega) hk3, g2.block k (by omega)]
theorem Aw.grown {lo G : Nat} {row : Option Nat} {w w' : World} {P : World → Prop} (h : Aw lo row w P) (hg : w.grownBy w' (some G)) (hG : G < lo) : Aw lo row w' P :=
  fun w2 h2 => h w2 fun k h3 h4 h5 => (h2 k h3 (Nat.lt_of_lt_of_le h4 hg.size) h5).trans (hg.block k h4 (fun e => by simp only [Option.some.injEq] at e; omega))
/-- The list, once it is whole. -/
theorem its_of {lo : Nat} {w : World} {v : Value} {l : List Iv} (ho : OwnI w lo v l) (h : Aw lo v.ownBlock w (AllI l)) : ItsF lo w (l.map (·.1)) v := by
  intro w2 h2
  have hA := h w2 (fun k h3 h4 _ => h2 k h3 h4)
  rcases ho.2 with ⟨rfl, h0⟩ | ⟨g, cap, cur, rfl, hg0, hg, hcp, _⟩
  · obtain rfl : l = [] := List.eq_nil_of_length_eq_zero h0
    exact ⟨none, 0, rfl, Nat.le_refl _, by unfold RowAt; trivial⟩
  · refine ⟨some ⟨g, 0, none⟩, cap, by simp, by simpa using hcp, rowAt_mk _ _ fun i hi => ?_⟩
    have hi' : i < l.length := by simpa using hi
    have hlt : g < w.heap.size := (Array.getElem?_eq_some_iff.1 hg).1
    refine ⟨_, l[i].2.1, l[i].2.2, rfl, fun m x hm => ?_, ?_⟩
    · rw [List.getElem_map] at hm
      have hm13 : m < 13 := by
        have := (List.getElem?_eq_some_iff.1 hm).1
        simpa [itVals] using this
      have hc := World.ownsRow.cells ho (g := g) rfl (i * 13 + m) x (by rw [ivCells_get l i m hi' hm13]; exact hm)
      rw [Nat.zero_add]
      refine Eq.trans (World.cell?_of_block ?_) hc
      rw [show ((⟨g, 0, none⟩ : Addr).add (i * 13 + m)).block = g by unfold Addr.add; split <;> rfl]
      exact h2 g hg0 hlt
    · rw [List.getElem_map]
      exact hA l[i] (List.getElem_mem hi')
end Go.Proofs.YtkopjmofdnlplaaGreatDoor.Tm
namespace Go.Proofs.YtkopjmofdnlplaaGreatDoor.Tm
open Go.RowKit Go.Maps Go.ChangeShapes Go.Proofs.YtkopjmofdnlplaaGreatDoor.Lex Go.Proofs.YtkopjmofdnlplaaGreatDoor.Dig
def Mp (w : World) (b cnt : Nat) (M : Nat → Int) : Prop :=
  ∃ D : DataW Unit, w.ownsMap Tryz.prog 5 (plainElem Tryz.prog 3) b cnt D ∧ IsMap D ∧ ∀ k : Nat, D.atKey (.int .u8 k) (.lit (.int .i64 0)) = .lit (.int .i64 (M k))
theorem keyed8 : Keyed Tryz.prog 5 := int_keyed Tryz.underlying5
theorem key8 (c : Nat) (h : c < 256) : keyOf Tryz.prog 5 (.int .u8 (c : Int)) = some (.int .u8 (c : Int)) :=
  keyOf_int_mk Tryz.underlying5 (by simp [Lit.wf, IntKind.min, IntKind.max, IntKind.signed, IntKind.bits]; omega)
theorem wf64 (k : Int) (h : -9223372036854775808 ≤ k ∧ k ≤ 9223372036854775807) : (Lit.int .i64 k).wf = true := by
  simp [Lit.wf, IntKind.min, IntKind.max, IntKind.signed, IntKind.bits]; omega
theorem zero8 (w : World) : (zeroValue 3).run Tryz.prog w = .ok (.int .i64 0) w := by kernel_rfl
theorem mp_new (w : World) : Mp (w.alloc (.map #[] 0)) w.heap.size 0 (fun _ => 0) :=
  ⟨.map [], World.ownsMap_made w _ _ _, (World.ownsMap_made w Tryz.prog 5 (plainElem (H := Unit) Tryz.prog 3)).isMap, fun _ => rfl⟩
set_option maxRecDepth 20000 in
theorem Mp.get {w : World} {b cnt : Nat} {M : Nat → Int} (h : Mp w b cnt M) (k : Nat) (hk : k < 256) :
    (Instr.lookup 209 (.map (some b)) (.int .u8 (k : Int)) false).run Tryz.prog w = .ok (.int .i64 (M k)) w := by
  obtain ⟨D, h1, h2, h3⟩ := h
  obtain ⟨c, hrun, hat, _⟩ := h1.lookup_int keyed8 Tryz.underlying209 Tryz.underlying3 (zero8 w) (key8 k hk)
  rw [h3 k] at hat
  injection hat with hat
  injection hat with _ hat
  rw [hat]
  exact hrun
theorem Mp.put {w : World} {b cnt : Nat} {M : Nat → Int} (h : Mp w b cnt M) (hc : cnt ≤ 1000000) (k : Nat) (v : Int) (hk : k < 256) (hv : -9223372036854775808 ≤ v ∧ v ≤ 9223372036854775807) :
    ∃ w', (Instr.mapUpdate 209 (.map (some b)) (.int .u8 (k : Int)) (.int .i64 v)).run Tryz.prog w = .ok () w' ∧ Mp w' b (cnt + 1) (fun x => if x = k then v else M x) ∧ w.grownBy w' (some b) := by
  obtain ⟨D, h1, h2, h3⟩ := h
  obtain ⟨w', r1, r2, r3⟩ := h1.update keyed8 Tryz.underlying209 (by unfold maxLen; omega) (key8 k hk) (plainElem_int Tryz.underlying3 (wf64 v hv))
  refine ⟨w', r1, ⟨_, r2, h2.put _ _, fun x => ?_⟩, r3⟩
  show _ = DataW.lit (.int .i64 (if x = k then v else M x))
  by_cases e : x = k
  · subst e
    rw [if_pos rfl]
    exact atKey_put_same h2 (by trivial) _ _
  · rw [if_neg e, atKey_put_other (fun q => by injection q with _ q; exact e (by omega))]
    exact h3 x
/-- How many bytes a number has, by its word's second letter. -/
def widthOf (c : Nat) : Int := if c = 54 then 8 else if c = 51 then 4 else if c = 49 then 2 else if c = 56 then 1 else 0
theorem widths_made (w : World) (c : Nat) (hc : c < 256) : ∃ w1 w2 w3 w4 : World,
    (Instr.mapUpdate 209 (.map (some w.heap.size)) (.int .u8 56) (.int .i64 1)).run Tryz.prog (w.alloc (.map #[] 0)) = .ok () w1 ∧
    (Instr.mapUpdate 209 (.map (some w.heap.size)) (.int .u8 49) (.int .i64 2)).run Tryz.prog w1 = .ok () w2 ∧
    (Instr.mapUpdate 209 (.map (some w.heap.size)) (.int .u8 51) (.int .i64 4)).run Tryz.prog w2 = .ok () w3 ∧
    (Instr.mapUpdate 209 (.map (some w.heap.size)) (.int .u8 54) (.int .i64 8)).run Tryz.prog w3 = .ok () w4 ∧
    (Instr.lookup 209 (.map (some w.heap.size)) (.int .u8 (c : Int)) false).run Tryz.prog w4 = .ok (.int .i64 (widthOf c)) w4 ∧ Below w.heap.size w w4 := by
  obtain ⟨w1, e1, q1, g1⟩ := (mp_new w).put (by omega) 56 1 (by omega) (by omega)
  obtain ⟨w2, e2, q2, g2⟩ := q1.put (by omega) 49 2 (by omega) (by omega)
  obtain ⟨w3, e3, q3, g3⟩ := q2.put (by omega) 51 4 (by omega) (by omega)
  obtain ⟨w4, e4, q4, g4⟩ := q3.put (by omega) 54 8 (by omega) (by omega)
  have e5 := q4.get c hc
  have hb := ((((Below.refl w.heap.size w).alloc (Nat.le_refl _) (.map #[] 0)).grown ((g1.trans g2).trans (g3.trans g4)) (by simp) (fun k e => by cases e; exact Nat.le_refl _)))
  exact ⟨w1, w2, w3, w4, e1, e2, e3, e4, e5, hb⟩
theorem nums_at : ∀ i : Fin 72, NUMS.data.toList[i.val]? = some 32 → NUMS.data.toList[i.val + 2]? ≠ some 32 ∧ ∀ c, NUMS.data.toList[i.val + 2]? = some c → c = 56 ∨ c = 49 ∨ c = 51 ∨ c = 54 := by decide +kernel
theorem nums_first : ∀ i : Fin 72, NUMS.data.toList[i.val]? = some 32 → ∀ c, NUMS.data.toList[i.val + 1]? = some c → c = 117 ∨ c = 105 := by decide +kernel
theorem spaced_get (s : ByteArray) (j : Nat) (h : j < s.size) : (spaced s).data.toList[j + 1]? = some s[j] := by
  have e : (spaced s).data.toList = 32 :: (s.data.toList ++ [32]) := by unfold spaced; simp [ByteArray.data_append]
  rw [e, List.getElem?_cons_succ, List.getElem?_append_left (by simpa using h)]
  rw [List.getElem?_eq_getElem (by simpa using h)]
  rfl
theorem spaced_first (s : ByteArray) : (spaced s).data.toList[0]? = some 32 := by
  have e : (spaced s).data.toList = 32 :: (s.data.toList ++ [32]) := by unfold spaced; simp [ByteArray.data_append]
  rw [e]; rfl
theorem spaced_last (s : ByteArray) : (spaced s).data.toList[s.size + 1]? = some 32 := by
  have e : (spaced s).data.toList = 32 :: (s.data.toList ++ [32]) := by unfold spaced; simp [ByteArray.data_append]
  have hl : s.data.toList.length = s.size := rfl
  rw [e, List.getElem?_cons_succ, List.getElem?_append_right (by omega), hl, Nat.sub_self]
  rfl
theorem spaced_len (s : ByteArray) : (spaced s).data.toList.length = s.size + 2 := by
  have e : (spaced s).data.toList = 32 :: (s.data.toList ++ [32]) := by unfold spaced; simp [ByteArray.data_append]
  rw [e]; simp
/-- A word for a number has two letters at least, and its second is one of four. -/
theorem num_at {s : ByteArray} (h : isNumP s = true) : ∃ h2 : 1 < s.size, s[1] = 56 ∨ s[1] = 49 ∨ s[1] = 51 ∨ s[1] = 54 := by
  unfold isNumP at h
  by_cases he : s = emp
  · rw [if_pos he] at h; cases h
  rw [if_neg he] at h
  unfold inside Lib.contains at h
  have h0 := of_decide_eq_true h
  have hr := Lib.index_room _ _ h0
  rcases Lib.index_spec NUMS.data.toList (spaced s).data.toList with ⟨e, _⟩ | ⟨i, e, _, ho, _⟩
  · rw [e] at h0; omega
  rw [e, spaced_len] at hr
  have hN : NUMS.data.toList.length = 67 := by decide
  rw [hN] at hr
  have hget : ∀ j c, (spaced s).data.toList[j]? = some c → NUMS.data.toList[i + j]? = some c := by
    intro j c hj
    rw [Lib.occAt_iff_take _ _ _ (by rw [spaced_len, hN]; omega), beq_iff_eq] at ho
    rw [← ho, List.getElem?_take] at hj
    split at hj
    · rw [List.getElem?_drop] at hj; exact hj
    · cases hj
  have hs0 : 0 < s.size := (ne_emp he).2.2
  have hi : i < 72 := by omega
  have a0 := hget 0 _ (spaced_first s)
  have b := nums_at ⟨i, hi⟩ a0
  have h2 : 1 < s.size := by
    rcases (show s.size = 1 ∨ 1 < s.size by omega) with e1 | e1
    · have := hget (s.size + 1) _ (spaced_last s)
      rw [e1] at this
      exact absurd this b.1
    · exact e1
  exact ⟨h2, b.2 _ (hget 2 _ (spaced_get s 1 h2))⟩
end Go.Proofs.YtkopjmofdnlplaaGreatDoor.Tm
namespace Go.Proofs.YtkopjmofdnlplaaGreatDoor.Tm
open Go.RowKit Go.Proofs.YtkopjmofdnlplaaGreatDoor.Lex Go.Proofs.YtkopjmofdnlplaaGreatDoor.Dig
def x0 (k : Nat) : It := .mk 0 k ⟨#[]⟩ ⟨#[]⟩ 0 0 false false none 0 ⟨#[]⟩ ⟨#[]⟩ []
def zero13 : List Value := itVals (x0 0) (.pointer none) (.slice none 0 0)
/-- The memory of an item that is being read: the eyes, its box X, the box R of what is returned. -/
structure IS (W : World) (G E R X : Nat) (lv : Value) (τ : Ey) (vs : List Value) (w : World) : Prop where
  ps : PS G E lv τ w
  gb : W.grownBy w (some G)
  bx : IB w X vs
  rx : IB w R zero13
  hX : W.heap.size ≤ X
  hR : W.heap.size ≤ R
  ne : R ≠ X
  hG : G < W.heap.size
  mx : Mx w
  ml : 1 < W.heap.size
  gm : G ≠ 1
theorem gb_set_new {W w : World} {G X j : Nat} {v : Value} (h : W.grownBy w (some G)) (hX : W.heap.size ≤ X) : W.grownBy (w.setCell ⟨X, j, none⟩ v) (some G) :=
  ⟨h.os, h.tape, h.output, by rw [show (w.setCell ⟨X, j, none⟩ v).heap.size = w.heap.size by simp [World.setCell]]; exact h.size, fun k hk hr => (Below.heap_setCell _ _ _ _ (show k ≠ X by omega)).trans (h.block k hk hr)⟩
theorem IS.step {W : World} {G E R X : Nat} {lv : Value} {τ τ' : Ey} {vs : List Value} {w w' : World} (h : IS W G E R X lv τ vs w) (hs : StP G E τ' w w') : ∃ lv', IS W G E R X lv' τ' vs w' := by
  obtain ⟨⟨lv', hp⟩, hg⟩ := hs
  have hrx := h.rx
  have a := h.hG
  have b := h.hX
  have c := h.hR
  exact ⟨lv', hp, gb_trans h.gb hg, h.bx.grown hg (by omega), hrx.grown hg (by omega), b, c, h.ne, a, h.mx.grown hg h.gm, h.ml, h.gm⟩
theorem IS.below {W : World} {G E R X : Nat} {lv : Value} {τ : Ey} {vs : List Value} {w w' : World} (h : IS W G E R X lv τ vs w) (hb : Below w.heap.size w w') : IS W G E R X lv τ vs w' := by
  have hg := gb_below (some G) hb
  have hrx := h.rx
  have a := h.hG
  have b := h.hX
  have c := h.hR
  exact ⟨h.ps.below hb, gb_trans h.gb hg, h.bx.grown hg (by omega), hrx.grown hg (by omega), b, c, h.ne, a, h.mx.grown hg h.gm, h.ml, h.gm⟩
theorem IS.drew {W : World} {G E R X : Nat} {lv : Value} {τ : Ey} {vs : List Value} {w : World} (h : IS W G E R X lv τ vs w) : IS W G E R X lv τ vs w.drew := h.below (Below.refl _ _).drew
theorem ps_other {G E X j : Nat} {lv v : Value} {σ : Ey} {w : World} (h : PS G E lv σ w) (hX : G < X) : PS G E lv σ (w.setCell ⟨X, j, none⟩ v) := by
  have e : (w.setCell ⟨X, j, none⟩ v).heap[G]? = w.heap[G]? := Below.heap_setCell _ _ _ _ (show G ≠ X by omega)
  refine ⟨(World.cell?_of_block (a := ⟨G, 0, none⟩) e).trans h.c0, (World.cell?_of_block (a := ⟨G, 1, none⟩) e).trans h.c1, (World.cell?_of_block (a := ⟨G, 2, none⟩) e).trans h.c2, (World.cell?_of_block (a := ⟨G, 3, none⟩) e).trans h.c3, fun j => (World.frozen?_of_block (a := ⟨G, j, none⟩) e).trans (h.fz j), ?_, h.nb, ?_⟩
  · refine tks_kept h.tk fun hl k hk => Below.heap_setCell _ _ _ _ (show k ≠ X by have := h.nb hl k hk; omega)
  · simpa [World.setCell] using h.lt
theorem IS.set {W : World} {G E R X : Nat} {lv : Value} {τ : Ey} {vs : List Value} {w : World} (h : IS W G E R X lv τ vs w) (j : Nat) (v : Value) : IS W G E R X lv τ (vs.set j v) (w.setCell ⟨X, j, none⟩ v) := by
  have hrx := h.rx
  have a := h.hG
  have b := h.hX
  have hm : Mx (w.setCell ⟨X, j, none⟩ v) := by
    obtain ⟨m, hm⟩ := h.mx
    have hlt := h.ml
    exact ⟨m, (World.cell?_setCell_other _ _ _ _ (by intro e; injection e with e; omega)).trans hm⟩
  exact ⟨ps_other h.ps (by omega), gb_set_new h.gb b, h.bx.set j v, hrx.setOther h.ne, b, h.hR, h.ne, a, hm, h.ml, h.gm⟩
/-- What the return's store leaves. -/
structure RQ (W : World) (G E R : Nat) (lv : Value) (τ : Ey) (rs : List Value) (w0 w : World) : Prop where
  ps : PS G E lv τ w
  gb : W.grownBy w (some G)
  rx : IB w R rs
  hG : G < W.heap.size
  hR : W.heap.size ≤ R
  size : w.heap.size = w0.heap.size
  keep : ∀ k, k ≠ R → w.heap[k]? = w0.heap[k]?
theorem IS.rs {W : World} {G E R X : Nat} {lv : Value} {τ : Ey} {vs : List Value} {w : World} (h : IS W G E R X lv τ vs w) : RQ W G E R lv τ zero13 w w :=
  ⟨h.ps, h.gb, h.rx, h.hG, h.hR, rfl, fun _ _ => rfl⟩
theorem RQ.set {W : World} {G E R : Nat} {lv : Value} {τ : Ey} {rs : List Value} {w0 w : World} (h : RQ W G E R lv τ rs w0 w) (j : Nat) (v : Value) : RQ W G E R lv τ (rs.set j v) w0 (w.setCell ⟨R, j, none⟩ v) :=
  ⟨ps_other h.ps (by have := h.hG; have := h.hR; omega), gb_set_new h.gb h.hR, h.rx.set j v, h.hG, h.hR, by rw [← h.size]; simp [World.setCell], fun k hk => (Below.heap_setCell _ _ _ _ hk).trans (h.keep k hk)⟩
end Go.Proofs.YtkopjmofdnlplaaGreatDoor.Tm
