/-
  PROVED HERE: texts as templates have them, plain: what the document's reading makes of a text; the document's view in memory, and the contracts of its small methods; the contracts of the document's view's count and of itemsOf; lists of parts that a call owns, append of one; what may change while a text is read; names in a map; what holds while the document's view reads one of an item: the memory, and the contracts of one and block as statements. Conditions: as each theorem states.
-/
import Derived.Test.YtkopjmofdnlplaaGreatDoorTmM
import Derived.Test.YtkopjmofdnlplaaGreatDoorTmP
import Derived.Test.YtkopjmofdnlplaaGreatDoorExpI
import Derived.Test.YtkopjmofdnlplaaGreatDoorRmp
import Derived.Test.YtkopjmofdnlplaaGreatDoorNms
import Derived.Test.YtkopjmofdnlplaaGreatDoorExpK
import Derived.Test.YtkopjmofdnlplaaGreatDoorTrF
import Derived.Test.YtkopjmofdnlplaaGreatDoorWsg
import Derived.Test.YtkopjmofdnlplaaGreatDoorWordA
namespace Go.Proofs.YtkopjmofdnlplaaGreatDoor.Ly
open Go.RowKit Go.Proofs.YtkopjmofdnlplaaGreatDoor.Tm
/-- Names, and what they are. -/
abbrev Nf := ByteArray → Int × Bool
def nf0 : Nf := fun _ => (0, false)
def putN (f : Nf) (s : ByteArray) (n : Int) : Nf := fun y => if y = s then (n, true) else f y
/-- A part of a text. -/
inductive Nd
  | mk (name : ByteArray) (kind : Int) (at_ : Nat) (size : Int) (n : Int) (text : ByteArray) (kids : List Nd)
def Nd.n : Nd → Int | .mk _ _ _ _ n _ _ => n
def Nd.kids : Nd → List Nd | .mk _ _ _ _ _ _ k => k
/-- What has been read: up to where, how many parts, what is wrong. -/
structure Vw where
  p : Nat
  k : Nat
  c : Int
  a : Int
def wrV (v : Vw) (e : Int) : Vw := if v.c = 0 then ⟨v.p, v.k, e, (v.p : Int)⟩ else v
def begV (v : Vw) : Vw := if 400 < v.k + 1 then wrV ⟨v.p, v.k + 1, v.c, v.a⟩ 4 else ⟨v.p, v.k + 1, v.c, v.a⟩
def cntV (q : Int × Int × Int) (v : Vw) : Vw := if v.c = 0 ∧ q.2.1 ≠ 0 then ⟨v.p, v.k, q.2.1, q.2.2⟩ else v
def offV (s : ByteArray) (n : Int) (v : Vw) : Vw := if n < 0 ∨ (s.size : Int) - (v.p : Int) < n then wrV v 3 else v
def cutV (s : ByteArray) (n : Int) (v : Vw) : ByteArray × Vw := if v.c ≠ 0 then (emp, v) else (s.extract v.p (v.p + n.toNat), ⟨v.p + n.toNat, v.k, v.c, v.a⟩)
def bytV (s : ByteArray) (n : Int) (v : Vw) : ByteArray × Vw := cutV s n (offV s n v)
def evO (f : Nf) : Option Ex → Int × Int × Int
  | none => (0, 0, -1)
  | some e => evalF f e
abbrev Blk := List It → Vw → Nf → List Nd × Vw × Nf
abbrev One := It → Vw → Nf → Nd × Vw × Nf
/-- A number out of its bytes. -/
def numV (wd od : Int) (sg : Bool) (s : ByteArray) (num : Int → Int → Bool → ByteArray → Int) : Int := if s = emp then 0 else num wd od sg s
section
variable (num : Int → Int → Bool → ByteArray → Int) (T : ByteArray → List It) (s : ByteArray)
def oneG (blk : Blk) (x : It) (v : Vw) (f : Nf) : Nd × Vw × Nf :=
  let v1 := begV v
  if v1.c ≠ 0 then (.mk x.name x.kind v.p 0 0 emp [], v1, f)
  else if x.kind = 1 then
    let r := bytV s x.width v1
    (.mk x.name x.kind v.p ((r.2.p : Int) - (v.p : Int)) (numV x.width x.order x.signed r.1 num) emp [], r.2, f)
  else if x.kind = 2 then
    let q := evO f x.count
    let r := bytV s q.1 (cntV q v1)
    (.mk x.name x.kind v.p ((r.2.p : Int) - (v.p : Int)) 0 r.1 [], r.2, f)
  else if x.kind = 4 then
    let q := evO f x.count
    let v2 := cntV q v1
    if q.1 ≠ 0 then
      let b := blk x.items v2 f
      (.mk x.name x.kind v.p ((b.2.1.p : Int) - (v.p : Int)) 1 emp b.1, b.2)
    else (.mk x.name x.kind v.p ((v2.p : Int) - (v.p : Int)) 0 emp [], v2, f)
  else
    let b := blk (T x.type) v1 nf0
    (.mk x.name x.kind v.p ((b.2.1.p : Int) - (v.p : Int)) 0 emp b.1, b.2.1, f)
def manyG (one : One) (x : It) : Nat → List Nd → Vw → Nf → List Nd × Vw × Nf
  | 0, l, v, f => (l, v, f)
  | K + 1, l, v, f => if v.c ≠ 0 then (l, v, f) else manyG one x K (l ++ [(one x v f).1]) (one x v f).2.1 (one x v f).2.2
def lowV (n : Int) (v : Vw) : Vw := if n < 0 then wrV v 3 else v
def listG (one : One) (x : It) (v : Vw) (f : Nf) : Nd × Vw × Nf :=
  let q := evO f x.count
  let r := manyG one x q.1.toNat [] (lowV q.1 (cntV q (begV v))) f
  (.mk x.name 9 v.p ((r.2.1.p : Int) - (v.p : Int)) 0 emp r.1, r.2)
def partG (one : One) (x : It) (v : Vw) (f : Nf) : Nd × Vw × Nf :=
  if x.many = true then listG one x v f
  else ((one x v f).1, (one x v f).2.1, if x.kind = 1 then putN (one x v f).2.2 x.name (one x v f).1.n else (one x v f).2.2)
def blkG (one : One) : List It → List Nd → Vw → Nf → List Nd × Vw × Nf
  | [], out, v, f => (out, v, f)
  | x :: r, out, v, f => if v.c ≠ 0 then ([], v, f) else blkG one r (out ++ [(partG one x v f).1]) (partG one x v f).2.1 (partG one x v f).2.2
/-- What the document's view makes of one of an item. -/
def oneV : Nat → One
  | 0 => fun _ v f => (.mk emp 0 0 0 0 emp [], v, f)
  | m + 1 => oneG num T s (fun l v f => blkG (oneV m) l [] v f)
end
/-! ### What is wrong stays -/
theorem wrV_stop {v : Vw} (h : v.c ≠ 0) (e : Int) : wrV v e = v := if_neg h
theorem begV_c {v : Vw} (h : v.c ≠ 0) : begV v = ⟨v.p, v.k + 1, v.c, v.a⟩ := by
  unfold begV
  split
  · exact wrV_stop (v := ⟨v.p, v.k + 1, v.c, v.a⟩) h 4
  · rfl
theorem cntV_stop {q : Int × Int × Int} {v : Vw} (h : v.c ≠ 0) : cntV q v = v := if_neg (fun x => h x.1)
theorem offV_stop {s : ByteArray} {n : Int} {v : Vw} (h : v.c ≠ 0) : offV s n v = v := by
  unfold offV
  split
  · exact wrV_stop h 3
  · rfl
theorem cutV_stop {s : ByteArray} {n : Int} {v : Vw} (h : v.c ≠ 0) : cutV s n v = (emp, v) := if_pos h
theorem bytV_stop {s : ByteArray} {n : Int} {v : Vw} (h : v.c ≠ 0) : bytV s n v = (emp, v) := by
  unfold bytV
  rw [offV_stop h]
  exact cutV_stop h
theorem lowV_stop {n : Int} {v : Vw} (h : v.c ≠ 0) : lowV n v = v := by
  unfold lowV
  split
  · exact wrV_stop h 3
  · rfl
theorem manyG_stop {one : One} {x : It} {v : Vw} {l : List Nd} {f : Nf} (K : Nat) (h : v.c ≠ 0) : manyG one x K l v f = (l, v, f) := by
  cases K with
  | zero => rfl
  | succ K => exact if_pos h
theorem blkG_stop {one : One} {v : Vw} {out : List Nd} {f : Nf} (l : List It) (h : v.c ≠ 0) : (blkG one l out v f).2 = (v, f) := by
  cases l with
  | nil => rfl
  | cons x r => unfold blkG; rw [if_pos h]
/-! ### In memory -/
/-- The seven cells of a part, but for what hangs on it. -/
def ndVals (x : Nd) (kv : Value) : List Value := match x with | .mk nm k a sz n t _ => [.string nm, .int .i64 k, .int .i64 (a : Nat), .int .i64 sz, .int .i64 n, .string t, kv]
theorem ndVals_len (x : Nd) (kv : Value) : (ndVals x kv).length = 7 := by cases x; rfl
mutual
def NdAt (w : World) : Nd → Value → Prop
  | .mk _ _ _ _ _ _ kids, kv => ∃ a cap, kv = .slice a kids.length cap ∧ (kids.length ≤ cap ∧ cap ≤ maxLen) ∧ NRow w kids a 0
def NRow (w : World) : List Nd → Option Addr → Nat → Prop
  | [], _, _ => True
  | x :: r, a, j => (∃ ad kv, a = some ad ∧ (∀ i v, (ndVals x kv)[i]? = some v → w.cell? (ad.add (j * 7 + i)) = some v) ∧ NdAt w x kv) ∧ NRow w r a (j + 1)
end
/-- The slice v shows the parts l. -/
def NdsAt (w : World) (v : Value) (l : List Nd) : Prop := ∃ a cap, v = .slice a l.length cap ∧ (l.length ≤ cap ∧ cap ≤ maxLen) ∧ NRow w l a 0
theorem ndAt_iff (w : World) (x : Nd) (kv : Value) : NdAt w x kv ↔ NdsAt w kv x.kids := by
  cases x
  simp only [NdAt, NdsAt, Nd.kids]
theorem nRow_get {w : World} {a : Option Addr} : ∀ (l : List Nd) (j : Nat), NRow w l a j → ∀ i (h : i < l.length), ∃ ad kv, a = some ad ∧ (∀ m v, (ndVals l[i] kv)[m]? = some v → w.cell? (ad.add ((j + i) * 7 + m)) = some v) ∧ NdAt w l[i] kv := by
  intro l
  induction l with
  | nil => intro j _ i h; simp at h
  | cons x r ih =>
    intro j hr i h
    unfold NRow at hr
    cases i with
    | zero => exact hr.1
    | succ i =>
      have := ih (j + 1) hr.2 i (by simpa using h)
      rw [show j + 1 + i = j + (i + 1) by omega] at this
      exact this
theorem nRow_mk {w : World} {a : Option Addr} : ∀ (l : List Nd) (j : Nat), (∀ i (h : i < l.length), ∃ ad kv, a = some ad ∧ (∀ m v, (ndVals l[i] kv)[m]? = some v → w.cell? (ad.add ((j + i) * 7 + m)) = some v) ∧ NdAt w l[i] kv) → NRow w l a j := by
  intro l
  induction l with
  | nil => intro j _; unfold NRow; trivial
  | cons x r ih =>
    intro j h
    unfold NRow
    refine ⟨h 0 (by simp), ih (j + 1) fun i hi => ?_⟩
    have := h (i + 1) (by simpa using hi)
    rw [show j + (i + 1) = j + 1 + i by omega] at this
    exact this
mutual
theorem NdAt.below {w w' : World} (hb : Below w.heap.size w w') : ∀ (x : Nd) (kv : Value), NdAt w x kv → NdAt w' x kv
  | .mk _ _ _ _ _ _ kids, kv, h => by
    unfold NdAt at h ⊢
    obtain ⟨a, cap, e, hl, h2⟩ := h
    exact ⟨a, cap, e, hl, NRow.below hb kids a 0 h2⟩
theorem NRow.below {w w' : World} (hb : Below w.heap.size w w') : ∀ (l : List Nd) (a : Option Addr) (j : Nat), NRow w l a j → NRow w' l a j
  | [], _, _, _ => by unfold NRow; trivial
  | x :: r, a, j, h => by
    unfold NRow at h ⊢
    obtain ⟨⟨ad, kv, e, hc, hi⟩, h2⟩ := h
    exact ⟨⟨ad, kv, e, fun i v hv => keepCell hb (hc i v hv), NdAt.below hb x kv hi⟩, NRow.below hb r a (j + 1) h2⟩
end
theorem NdsAt.below {w w' : World} (hb : Below w.heap.size w w') {v : Value} {l : List Nd} (h : NdsAt w v l) : NdsAt w' v l := by
  obtain ⟨a, cap, e, hl, h2⟩ := h
  exact ⟨a, cap, e, hl, NRow.below hb l a 0 h2⟩
end Go.Proofs.YtkopjmofdnlplaaGreatDoor.Ly
namespace Go.Proofs.YtkopjmofdnlplaaGreatDoor.Ly
open Go.RowKit Go.Proofs.YtkopjmofdnlplaaGreatDoor.Tm
/-- The view in the block G. -/
structure VS (G : Nat) (tv : Value) (s : ByteArray) (v : Vw) (w : World) : Prop where
  c0 : w.cell? ⟨G, 0, none⟩ = some tv
  c1 : w.cell? ⟨G, 1, none⟩ = some (.string s)
  c2 : w.cell? ⟨G, 2, none⟩ = some (.int .i64 (v.p : Nat))
  c3 : w.cell? ⟨G, 3, none⟩ = some (.int .i64 (v.k : Nat))
  c4 : w.cell? ⟨G, 4, none⟩ = some (.int .i64 v.c)
  c5 : w.cell? ⟨G, 5, none⟩ = some (.int .i64 v.a)
  fz : ∀ j, w.frozen? ⟨G, j, none⟩ = false
theorem VS.lt {G : Nat} {tv : Value} {s : ByteArray} {v : Vw} {w : World} (h : VS G tv s v w) : G < w.heap.size := World.block_lt_of_cell? w _ h.c0
theorem VS.block {G : Nat} {tv : Value} {s : ByteArray} {v : Vw} {w w' : World} (h : VS G tv s v w) (e : w'.heap[G]? = w.heap[G]?) : VS G tv s v w' :=
  ⟨(World.cell?_of_block (a := ⟨G, 0, none⟩) e).trans h.c0, (World.cell?_of_block (a := ⟨G, 1, none⟩) e).trans h.c1, (World.cell?_of_block (a := ⟨G, 2, none⟩) e).trans h.c2, (World.cell?_of_block (a := ⟨G, 3, none⟩) e).trans h.c3, (World.cell?_of_block (a := ⟨G, 4, none⟩) e).trans h.c4, (World.cell?_of_block (a := ⟨G, 5, none⟩) e).trans h.c5, fun j => (World.frozen?_of_block (a := ⟨G, j, none⟩) e).trans (h.fz j)⟩
theorem VS.below {G : Nat} {tv : Value} {s : ByteArray} {v : Vw} {w w' : World} (h : VS G tv s v w) (hb : Below w.heap.size w w') : VS G tv s v w' := h.block (hb.block G h.lt)
theorem VS.drew' {G : Nat} {tv : Value} {s : ByteArray} {v : Vw} {w : World} (h : VS G tv s v w) : VS G tv s v w.drew := h.below (Below.refl _ _).drew
theorem VS.bad {G : Nat} {tv : Value} {s : ByteArray} {v : Vw} {w : World} (h : VS G tv s v w) (c a : Int) : VS G tv s ⟨v.p, v.k, c, a⟩ ((w.setCell ⟨G, 4, none⟩ (.int .i64 c)).setCell ⟨G, 5, none⟩ (.int .i64 a)) := by
  have o : ∀ j x, j ≠ 4 → j ≠ 5 → w.cell? ⟨G, j, none⟩ = some x → ((w.setCell ⟨G, 4, none⟩ (.int .i64 c)).setCell ⟨G, 5, none⟩ (.int .i64 a)).cell? ⟨G, j, none⟩ = some x := fun j x h4 h5 hx => by
    rw [World.cell?_setCell_other _ _ _ _ (by intro e; injection e with _ e; exact h5 e.symm), World.cell?_setCell_other _ _ _ _ (by intro e; injection e with _ e; exact h4 e.symm)]
    exact hx
  refine ⟨o 0 _ (by decide) (by decide) h.c0, o 1 _ (by decide) (by decide) h.c1, o 2 _ (by decide) (by decide) h.c2, o 3 _ (by decide) (by decide) h.c3, ?_, ?_, fun j => by rw [frozen?_setCell, frozen?_setCell]; exact h.fz j⟩
  · rw [World.cell?_setCell_other _ _ _ _ (by simp)]
    exact World.cell?_setCell_same _ _ _ h.c4
  · refine World.cell?_setCell_same (u := .int .i64 v.a) _ _ _ ?_
    rw [World.cell?_setCell_other _ _ _ _ (by simp)]
    exact h.c5
theorem VS.at2 {G : Nat} {tv : Value} {s : ByteArray} {v : Vw} {w : World} (h : VS G tv s v w) (p : Nat) : VS G tv s ⟨p, v.k, v.c, v.a⟩ (w.setCell ⟨G, 2, none⟩ (.int .i64 (p : Nat))) := by
  have o : ∀ j x, j ≠ 2 → w.cell? ⟨G, j, none⟩ = some x → (w.setCell ⟨G, 2, none⟩ (.int .i64 (p : Nat))).cell? ⟨G, j, none⟩ = some x := fun j x h4 hx => by
    rw [World.cell?_setCell_other _ _ _ _ (by intro e; injection e with _ e; exact h4 e.symm)]
    exact hx
  exact ⟨o 0 _ (by decide) h.c0, o 1 _ (by decide) h.c1, World.cell?_setCell_same _ _ _ h.c2, o 3 _ (by decide) h.c3, o 4 _ (by decide) h.c4, o 5 _ (by decide) h.c5, fun j => by rw [frozen?_setCell]; exact h.fz j⟩
theorem VS.at3 {G : Nat} {tv : Value} {s : ByteArray} {v : Vw} {w : World} (h : VS G tv s v w) (k : Nat) : VS G tv s ⟨v.p, k, v.c, v.a⟩ (w.setCell ⟨G, 3, none⟩ (.int .i64 (k : Nat))) := by
  have o : ∀ j x, j ≠ 3 → w.cell? ⟨G, j, none⟩ = some x → (w.setCell ⟨G, 3, none⟩ (.int .i64 (k : Nat))).cell? ⟨G, j, none⟩ = some x := fun j x h4 hx => by
    rw [World.cell?_setCell_other _ _ _ _ (by intro e; injection e with _ e; exact h4 e.symm)]
    exact hx
  exact ⟨o 0 _ (by decide) h.c0, o 1 _ (by decide) h.c1, o 2 _ (by decide) h.c2, World.cell?_setCell_same _ _ _ h.c3, o 4 _ (by decide) h.c4, o 5 _ (by decide) h.c5, fun j => by rw [frozen?_setCell]; exact h.fz j⟩
/-- What a method leaves. -/
def StV (G : Nat) (tv : Value) (s : ByteArray) (v' : Vw) (W w' : World) : Prop := VS G tv s v' w' ∧ W.grownBy w' (some G)
theorem gb2 {w : World} {G i j : Nat} {x y : Value} : w.grownBy ((w.setCell ⟨G, i, none⟩ x).setCell ⟨G, j, none⟩ y) (some G) := gb_trans gb_set gb_set
section
variable {G : Nat} {tv : Value} {s : ByteArray} {v : Vw} {W : World}
set_option maxRecDepth 100000 in
theorem wrong_any (h : VS G tv s v W) (e : Int) : Calls Tryz.prog 36 #[.pointer (some ⟨G, 0, none⟩), .int .i64 e] W fun en w' => en = .returned (.tuple #[]) ∧ StV G tv s (wrV v e) W w' := by
  have c2 := h.c2
  have c4 := h.c4
  have c5 := h.c5
  have HV := Lib.hid (fun w' (hb : Below W.heap.size W w') => h.below hb)
  have C := Lib.hid (is_any v.c v.a W)
  unfold wrV
  by_cases hc : v.c = 0
  · have e0 : (v.c == 0) = true := by simpa using hc
    rw [if_pos hc]
    rw [e0] at C
    clear h hc
    go_enter Tryz.func36, Tryz.ntmps36
    go_wp2_with fail
    refine (C.out).mono ?_; rintro e' w1 ⟨rfl, hb⟩
    have V1 := Lib.hid (HV.out w1 hb)
    have g1 := Lib.hid (gb_below (some G) hb)
    have c2 := V1.out.c2
    have c4 := V1.out.c4
    have c5 := V1.out.c5
    have f4 := V1.out.fz 4
    have f5 := V1.out.fz 5
    clear hb HV C
    have V2 := Lib.hid (V1.out.bad e (v.p : Int))
    go_wp2_with fail
    go_end0
    exact ⟨rfl, V2.out, gb_trans g1.out gb2⟩
  · have e0 : (v.c == 0) = false := by simpa using hc
    rw [if_neg hc]
    rw [e0] at C
    clear h hc
    go_enter Tryz.func36, Tryz.ntmps36
    go_wp2_with fail
    refine (C.out).mono ?_; rintro e' w1 ⟨rfl, hb⟩
    have V1 := Lib.hid (HV.out w1 hb)
    have g1 := Lib.hid (gb_below (some G) hb)
    clear hb HV C
    go_wp2_with fail
    go_end0
    exact ⟨rfl, V1.out, g1.out⟩
set_option maxRecDepth 100000 in
theorem begin_any (h : VS G tv s v W) (hk : v.k ≤ 100000) : Calls Tryz.prog 71 #[.pointer (some ⟨G, 0, none⟩)] W fun en w' => en = .returned (.tuple #[]) ∧ StV G tv s (begV v) W w' := by
  have c3 := h.c3
  have f3 := h.fz 3
  obtain ⟨k1, hk1⟩ : ∃ k, v.k + 1 = k := ⟨_, rfl⟩
  have hki : (v.k : Int) + 1 = (k1 : Int) := by omega
  have hk5 : (k1 : Int) ≤ 100001 := by omega
  have hk6 : (0 : Int) ≤ (k1 : Int) := by omega
  have V1 := Lib.hid (h.at3 k1)
  have y3 := V1.out.c3
  unfold begV
  rw [hk1]
  clear h
  by_cases h4 : 400 < k1
  · have d : (400 : Int) < (k1 : Int) := by omega
    rw [if_pos h4]
    have C := Lib.hid (wrong_any V1.out 4)
    clear h4 hk hk1
    go_enter Tryz.func71, Tryz.ntmps71
    go_wp2_with fail
    refine (C.out).mono ?_; rintro e' w2 ⟨rfl, hv, hg⟩
    have V2 := Lib.hid hv
    have g2 := Lib.hid (gb_trans gb_set hg)
    clear hv hg C
    go_wp2_with fail
    go_end0
    exact ⟨rfl, V2.out, g2.out⟩
  · have d : ¬ (400 : Int) < (k1 : Int) := by omega
    rw [if_neg h4]
    clear h4 hk hk1
    go_enter Tryz.func71, Tryz.ntmps71
    go_wp2_with fail
    go_end0
    exact ⟨rfl, V1.out, gb_set⟩
theorem offV_ok {n : Int} (_hp : v.p ≤ s.size) (h : (offV s n v).c = 0) : offV s n v = v ∧ 0 ≤ n ∧ (v.p : Int) + n ≤ s.size := by
  unfold offV at h ⊢
  by_cases hc : n < 0 ∨ (s.size : Int) - (v.p : Int) < n
  · rw [if_pos hc] at h
    unfold wrV at h
    by_cases h0 : v.c = 0
    · rw [if_pos h0] at h
      exact absurd h (show ¬ (3 : Int) = 0 by decide)
    · rw [if_neg h0] at h
      exact absurd h h0
  · rw [if_neg hc]
    exact ⟨rfl, by omega, by omega⟩
set_option maxRecDepth 100000 in
set_option maxHeartbeats 2000000 in
theorem bytes_any (h : VS G tv s v W) (n : Int) (hp : v.p ≤ s.size) (hs : s.size ≤ 100000) : Calls Tryz.prog 72 #[.pointer (some ⟨G, 0, none⟩), .int .i64 n] W fun en w' => en = .returned (.string (bytV s n v).1) ∧ StV G tv s (bytV s n v).2 W w' := by
  have c1 := h.c1
  have c2 := h.c2
  have h0 := Lib.hid h
  have HO := Lib.hid (fun q => offV_ok (s := s) (v := v) (n := n) hp q)
  have i1 : ¬ ((s.size : Int) - (v.p : Int) < -9223372036854775808) := by omega
  have HW : (s.size : Int) - (v.p : Int) ≤ 100000 := by omega
  have hb0 : 0 ≤ (s.size : Int) - (v.p : Int) := by omega
  obtain ⟨R, hR⟩ : ∃ R, bytV s n v = R := ⟨_, rfl⟩
  rw [hR]
  have HR := Lib.hid (show R = cutV s n (offV s n v) from hR.symm)
  clear h hR
  go_enter Tryz.func72, Tryz.ntmps72
  go_upto_region 1 with fail
  go_cut [21] (fun v1 wx => ∃ b : Bool, v1 = .bool b ∧ Hid (b = decide (n < 0 ∨ (s.size : Int) - (v.p : Int) < n)) ∧ Hid (StV G tv s v W wx))
  case first =>
    by_cases hn : n < 0
    · go_region
      all_goals
        go_wp2_with fail
        go_meet
        exact ⟨true, by first | rfl | simp [hn], Lib.hid (decide_eq_true (.inl hn)).symm, Lib.hid ⟨h0.out.drew', gb_below (some G) (Below.refl _ _).drew⟩⟩
    · by_cases h2 : (s.size : Int) - (v.p : Int) < n
      · go_region
        all_goals
          go_wp2_with fail
          go_meet
          exact ⟨true, by first | rfl | simp [hn, h2], Lib.hid (decide_eq_true (.inr h2)).symm, Lib.hid ⟨h0.out.drew', gb_below (some G) (Below.refl _ _).drew⟩⟩
      · go_region
        all_goals
          go_wp2_with fail
          go_meet
          exact ⟨false, by first | rfl | simp [hn, h2], Lib.hid (decide_eq_false (fun q => by omega)).symm, Lib.hid ⟨h0.out.drew', gb_below (some G) (Below.refl _ _).drew⟩⟩
  case rest =>
    clear h0 c1 c2
    obtain ⟨b, rfl, hb, hs1⟩ := hcut
    go_upto_if 21 with fail
    go_cut [] (fun wx => Hid (StV G tv s (offV s n v) W wx))
    case first =>
      cases b with
      | true =>
        have e := of_decide_eq_true hb.out.symm
        have HE := Lib.hid (show offV s n v = wrV v 3 from if_pos e)
        clear e
        go_wp2_with fail
        refine (wrong_any hs1.out.1 3).mono ?_; rintro e' w2 ⟨rfl, hv, hg⟩
        have V2 := Lib.hid (show StV G tv s (offV s n v) W w2 from ⟨by rw [HE.out]; exact hv, gb_trans hs1.out.2 hg⟩)
        clear hv hg
        go_wp2_with fail
        go_meet
        exact V2
      | false =>
        have e := of_decide_eq_false hb.out.symm
        have HE := Lib.hid (show offV s n v = v from if_neg e)
        clear e
        go_wp2_with fail
        go_meet
        exact Lib.hid (by rw [HE.out]; exact hs1.out)
    case rest =>
      clear hs1 hb
      rename_i wd
      obtain ⟨v1, hv1⟩ : ∃ x, offV s n v = x := ⟨_, rfl⟩
      rw [hv1] at hcut HR HO
      have V1 := Lib.hid hcut.out.1
      have g1 := Lib.hid hcut.out.2
      have c4 := V1.out.c4
      have c5 := V1.out.c5
      clear hcut
      have C := Lib.hid (is_any v1.c v1.a wc)
      by_cases hc : v1.c = 0
      · obtain ⟨hvv, hn0, hpn⟩ := HO.out hc
        obtain rfl : v1 = v := hvv
        have e0 : (v1.c == 0) = true := by simpa using hc
        rw [e0] at C
        have HR := Lib.hid (show R = (s.extract v1.p (v1.p + n.toNat), ⟨v1.p + n.toNat, v1.k, v1.c, v1.a⟩) from HR.out.trans (if_neg (by simp [hc])))
        obtain ⟨m, hm⟩ : ∃ m : Nat, n = (m : Int) := ⟨n.toNat, by omega⟩
        subst hm
        simp only [Int.toNat_natCast] at HR
        obtain ⟨p2, hp2⟩ : ∃ p2, v1.p + m = p2 := ⟨_, rfl⟩
        have hpi : (v1.p : Int) + (m : Int) = (p2 : Int) := by omega
        have hp3 : p2 ≤ s.size := by omega
        have hp4 : v1.p ≤ p2 := by omega
        rw [hp2] at HR
        have d1 : (p2 : Int) ≤ (s.size : Int) := by omega
        have d2 : (v1.p : Int) ≤ (p2 : Int) := by omega
        have d3 : (0 : Int) ≤ (v1.p : Int) := by omega
        clear HO hc hpn hn0 hv1 e0
        go_wp2_with fail
        refine (C.out).mono ?_; rintro e' w2 ⟨rfl, hb⟩
        have V2 := Lib.hid (V1.out.below hb)
        have g2 := Lib.hid (gb_trans g1.out (gb_below (some G) hb))
        have c1 := V2.out.c1
        have c2 := V2.out.c2
        have f2 := V2.out.fz 2
        clear hb C
        have V3 := Lib.hid ((V2.out.at2 p2).drew')
        go_upto_region 5 with fail
        go_region
        all_goals
          go_wp2_with fail
          go_ret
          refine ⟨by rw [HR.out]; rfl, ?_⟩
          rw [HR.out]
          exact ⟨V3.out, gb_trans (gb_trans g2.out gb_set) (gb_below (some G) (Below.refl _ _).drew)⟩
      · have e0 : (v1.c == 0) = false := by simpa using hc
        rw [e0] at C
        have HR := Lib.hid (show R = (emp, v1) from HR.out.trans (if_pos hc))
        clear HO hc e0
        go_wp2_with fail
        refine (C.out).mono ?_; rintro e' w2 ⟨rfl, hb⟩
        have V2 := Lib.hid (V1.out.below hb)
        have g2 := Lib.hid (gb_trans g1.out (gb_below (some G) hb))
        clear hb C
        go_wp2_with fail
        go_ret
        refine ⟨by rw [HR.out]; rfl, ?_⟩
        rw [HR.out]
        exact ⟨V2.out, g2.out⟩
end
end Go.Proofs.YtkopjmofdnlplaaGreatDoor.Ly
namespace Go.Proofs.YtkopjmofdnlplaaGreatDoor.Ly
open Go.RowKit Go.Proofs.YtkopjmofdnlplaaGreatDoor.Tm
section
variable {G : Nat} {tv : Value} {s : ByteArray} {v : Vw} {W : World}
set_option maxRecDepth 100000 in
set_option maxHeartbeats 2000000 in
theorem count_any (h : VS G tv s v W) (e : Ex) (xv : Value) (mo : Option Nat) (f : Nf) (ho : ExOk e) (hx : ExAt W e xv) (hN : Nms W mo f) : Calls Tryz.prog 75 #[.pointer (some ⟨G, 0, none⟩), xv, .map mo] W fun en w' => en = .returned (.int .i64 (evalF f e).1) ∧ StV G tv s (cntV (evalF f e) v) W w' := by
  have h0 := Lib.hid h
  have C := Lib.hid (docEval_any f mo e xv W ho hx hN)
  unfold DvP at C
  obtain ⟨⟨n, qc, qa⟩, hQ⟩ : ∃ Q, evalF f e = Q := ⟨_, rfl⟩
  rw [hQ] at C ⊢
  simp only at C
  obtain ⟨R, hR⟩ : ∃ R, cntV (n, qc, qa) v = R := ⟨_, rfl⟩
  rw [hR]
  have HR := Lib.hid hR
  clear h hx hN ho hQ hR
  go_enter Tryz.func75, Tryz.ntmps75
  go_wp2_with fail
  refine (C.out).mono ?_; rintro e' w1 ⟨rfl, hb⟩
  have V1 := Lib.hid (h0.out.below hb)
  have g1 := Lib.hid (gb_below (some G) hb)
  clear hb C h0
  go_upto_region 2 with fail
  have bA : Below w1.heap.size w1 (w1.alloc (.cells #[.int .i64 qc, .int .i64 qa] 30)) := (Below.refl _ _).alloc (Nat.le_refl _) _
  have fA : (w1.alloc (.cells #[.int .i64 qc, .int .i64 qa] 30)).heap[w1.heap.size]? = some (.cells #[.int .i64 qc, .int .i64 qa] 30) := heap_alloc_new _ _
  generalize w1.alloc (.cells #[.int .i64 qc, .int .i64 qa] 30) = w2 at *
  have V2 := Lib.hid (V1.out.below bA)
  have g2 := Lib.hid (gb_trans g1.out (gb_below (some G) bA))
  have hXG : G < w1.heap.size := V1.out.lt
  obtain ⟨X, hX⟩ : ∃ X, w1.heap.size = X := ⟨_, rfl⟩
  rw [hX] at fA hXG ⊢
  have F2 := Lib.hid fA
  have c4 := V2.out.c4
  have c5 := V2.out.c5
  have CV := Lib.hid (is_any v.c v.a w2)
  clear bA fA hX V1 g1
  by_cases hc : v.c = 0
  · have e0 : (v.c == 0) = true := by simpa using hc
    rw [e0] at CV
    have HC := Lib.hid hc
    clear hc e0
    go_wp2_with fail
    refine (CV.out).mono ?_; rintro e' w3 ⟨rfl, hb⟩
    have V3 := Lib.hid (V2.out.below hb)
    have g3 := Lib.hid (gb_trans g2.out (gb_below (some G) hb))
    have F3 := (hb.block _ (Array.getElem?_eq_some_iff.1 F2.out).1).trans F2.out
    have x0 : w3.cell? ⟨X, 0, none⟩ = some (.int .i64 qc) := by unfold World.cell?; rw [F3]; rfl
    have x1 : w3.cell? ⟨X, 1, none⟩ = some (.int .i64 qa) := by unfold World.cell?; rw [F3]; rfl
    have CQ := Lib.hid (is_any qc qa w3)
    have F3' := Lib.hid F3
    clear hb CV F3 c4 c5 F2 V2 g2
    by_cases hq : qc = 0
    · have e1 : (qc == 0) = true := by simpa using hq
      rw [e1] at CQ
      have HR := Lib.hid (show R = v by rw [← HR.out]; exact if_neg (fun z => z.2 hq))
      clear hq e1
      go_wp2_with fail
      refine (CQ.out).mono ?_; rintro e' w4 ⟨rfl, hb⟩
      have V4 := Lib.hid (V3.out.below hb)
      have g4 := Lib.hid (gb_trans g3.out (gb_below (some G) hb))
      clear hb CQ x0 x1
      go_wp2_with fail
      go_ret
      rw [HR.out]
      exact ⟨rfl, V4.out, g4.out⟩
    · have e1 : (qc == 0) = false := by simpa using hq
      rw [e1] at CQ
      have HR := Lib.hid (show R = ⟨v.p, v.k, qc, qa⟩ by rw [← HR.out]; exact if_pos ⟨HC.out, hq⟩)
      clear hq e1
      go_wp2_with fail
      refine (CQ.out).mono ?_; rintro e' w4 ⟨rfl, hb⟩
      have V4 := Lib.hid (V3.out.below hb)
      have g4 := Lib.hid (gb_trans g3.out (gb_below (some G) hb))
      have x0 := keepCell hb x0
      have x1 := keepCell hb x1
      have c4 := V4.out.c4
      have c5 := V4.out.c5
      have f4 := V4.out.fz 4
      have f5 := V4.out.fz 5
      have hne : ¬ X = G := by omega
      have hne2 : ¬ G = X := by omega
      clear hb CQ
      have V5 := Lib.hid (V4.out.bad qc qa)
      go_wp2_with fail
      go_ret
      rw [HR.out]
      exact ⟨rfl, V5.out, gb_trans g4.out gb2⟩
  · have e0 : (v.c == 0) = false := by simpa using hc
    rw [e0] at CV
    have HR := Lib.hid (show R = v by rw [← HR.out]; exact if_neg (fun z => hc z.1))
    clear hc e0
    go_wp2_with fail
    refine (CV.out).mono ?_; rintro e' w3 ⟨rfl, hb⟩
    have V3 := Lib.hid (V2.out.below hb)
    have g3 := Lib.hid (gb_trans g2.out (gb_below (some G) hb))
    clear hb CV
    go_wp2_with fail
    go_ret
    rw [HR.out]
    exact ⟨rfl, V3.out, g3.out⟩
end
/-- A struct by its name. -/
def findT (l : List Ty) (name : ByteArray) : Option Ty := l.find? fun t => decide (t.name = name)
def itsO : Option Ty → List It
  | some t => t.items
  | none => []
def itsT (l : List Ty) (name : ByteArray) : List It := itsO (findT l name)
def IoP (W0 : World) (l : List Ty) (name : ByteArray) (W : World) (e : Ending) (w' : World) : Prop := ∃ iv, e = .returned (.tuple #[iv, .bool (findT l name).isSome]) ∧ Below W.heap.size W w' ∧ ItsAt W0 iv (itsT l name) ∧ (∃ a m c, iv = .slice a m c)
theorem findT_drop {l : List Ty} {j : Nat} (h : j < l.length) (name : ByteArray) : findT (l.drop j) name = if l[j].name = name then some l[j] else findT (l.drop (j + 1)) name := by
  unfold findT
  rw [List.drop_eq_getElem_cons h, List.find?_cons]
  by_cases e : l[j].name = name
  · rw [if_pos e, decide_eq_true e]
  · rw [if_neg e, decide_eq_false e]
theorem itsAt_nil (w : World) : ItsAt w (.slice none 0 0) [] := ⟨none, 0, rfl, Nat.le_refl _, trivial⟩
set_option maxRecDepth 100000 in
set_option maxHeartbeats 2000000 in
theorem itemsOf_any (W0 : World) (l : List Ty) (va : Value) (name : ByteArray) (W : World) (hv : TysAt W0 va l) (hb0 : Below W0.heap.size W0 W) (h8 : l.length ≤ 8) : Calls Tryz.prog 33 #[va, .string name] W (IoP W0 l name W) := by
  obtain ⟨pa, ca, rfl, hla, ra⟩ := hv
  have RA := Lib.hid ra
  have HB0 := Lib.hid hb0
  obtain ⟨R, hR⟩ : ∃ R, findT l name = R := ⟨_, rfl⟩
  have HT := Lib.hid (show itsT l name = itsO R by unfold itsT; rw [hR])
  unfold IoP
  rw [hR]
  have HR := Lib.hid (show R = findT (l.drop 0) name from hR.symm)
  clear ra hR hb0
  go_enter Tryz.func33, Tryz.ntmps33
  go_wp2_with fail
  go_loopw [7, 10] (fun _ i wr => ∃ j : Nat, i = .int .i64 (j : Nat) ∧ j ≤ l.length ∧ Hid (R = findT (l.drop j) name) ∧ Hid (Below W.heap.size W wr)) (fun _ i _ => l.length - (intOf i).toNat)
  case atStart => exact ⟨0, rfl, Nat.zero_le _, HR, Lib.hid (Below.refl _ _)⟩
  case round =>
    clear HR
    obtain ⟨j, rfl, hj, HR, HB⟩ := hrel
    by_cases hlt : j < l.length
    · have d1 : (j : Int) < (l.length : Int) := by omega
      have i0 : (0 : Int) ≤ (j : Int) := by omega
      obtain ⟨ad, iv, rfl, r0, r1, r2, hit⟩ := RA.out j hlt
      have hfd := findT_drop hlt name
      obtain ⟨⟨nm, k, its⟩, ht⟩ : ∃ t, l[j] = t := ⟨_, rfl⟩
      rw [ht] at r0 r1 hit hfd
      simp only at r0 r1 hit hfd
      obtain ⟨s1, s2, s3, rfl⟩ : ∃ a m c, iv = .slice a m c := by
        obtain ⟨a, cap, e, _⟩ := hit
        exact ⟨_, _, _, e⟩
      have HI := Lib.hid hit
      have a0 := keepCell HB.out (keepCell HB0.out r0)
      have a1 := keepCell HB.out (keepCell HB0.out r1)
      have a2 := keepCell HB.out (keepCell HB0.out r2)
      rw [Nat.add_zero] at a0
      rw [add_next2 ad (j * 3) 0] at a1
      rw [add_next2 ad (j * 3) 1] at a2
      clear r0 r1 r2 hit ht
      obtain ⟨⟨g1, o1, y1⟩, hA1⟩ : ∃ A, ad.add (j * 3) = A := ⟨_, rfl⟩
      rw [hA1] at a0 a1 a2
      simp only [Nat.zero_add] at a1 a2
      have HB2 := Lib.hid (HB.out.alloc HB.out.size (.cells #[.string nm, .int .i64 (k : Nat), .slice s1 s2 s3] 122))
      by_cases hn : nm = name
      · have e1 : (nm.toList == name.toList) = true := (Go.Lib.bytes_beq_iff _ _).2 hn
        have HR2 := Lib.hid (show R = some ⟨nm, k, its⟩ by rw [HR.out, hfd, if_pos hn])
        clear hfd hn
        go_wp2_with fail
        go_ret2
        have hh := HI.out
        obtain ⟨aa, cc, ee, hl, hrow⟩ := hh
        refine ⟨.slice s1 s2 s3, by rw [HR2.out]; rfl, HB2.out, ?_, _, _, _, rfl⟩
        rw [HT.out, HR2.out]
        exact HI.out
      · have e1 : (nm.toList == name.toList) = false := (Go.Lib.bytes_beq_false_iff _ _).2 hn
        have HR2 := Lib.hid (show R = findT (l.drop (j + 1)) name by rw [HR.out, hfd, if_neg hn])
        clear hfd hn
        go_wp2_with fail
        go_roundw
        case rel => exact ⟨j + 1, by go_num, hlt, HR2, HB2⟩
        case measure => first | (simp [intOf]; done) | (simp [intOf]; omega)
    · have d1 : ¬ (j : Int) < (l.length : Int) := by omega
      have HR2 := Lib.hid (show R = none by rw [HR.out, List.drop_of_length_le (by omega)]; rfl)
      go_wp2_with fail
      go_ret2
      refine ⟨.slice none 0 0, by rw [HR2.out]; rfl, HB.out, ?_, _, _, _, rfl⟩
      rw [HT.out, HR2.out]
      exact itsAt_nil _
end Go.Proofs.YtkopjmofdnlplaaGreatDoor.Ly
namespace Go.Proofs.YtkopjmofdnlplaaGreatDoor.Ly
open Go.RowKit Go.Proofs.YtkopjmofdnlplaaGreatDoor.Tm
abbrev Nv := Nd × Value
def Nv.vals (p : Nv) : List Value := ndVals p.1 p.2
theorem nv_len (p : Nv) : p.vals.length = 7 := ndVals_len _ _
def nvCells (l : List Nv) : List Value := l.flatMap Nv.vals
theorem nvCells_len (l : List Nv) : (nvCells l).length = l.length * 7 := by
  induction l with
  | nil => rfl
  | cons e r ih => rw [nvCells, List.flatMap_cons, List.length_append, ← nvCells, ih, List.length_cons, nv_len]; omega
theorem nvCells_snoc (l : List Nv) (e : Nv) : nvCells l ++ e.vals = nvCells (l ++ [e]) := by simp [nvCells]
theorem nvCells_get (l : List Nv) (j i : Nat) (hj : j < l.length) (hi : i < 7) : (nvCells l)[j * 7 + i]? = l[j].vals[i]? := by
  induction l generalizing j with
  | nil => simp at hj
  | cons e r ih =>
    have he : e.vals.length = 7 := nv_len e
    rw [nvCells, List.flatMap_cons, ← nvCells]
    cases j with
    | zero =>
      rw [Nat.zero_mul, Nat.zero_add, List.getElem?_append_left (by omega)]
      rfl
    | succ j =>
      rw [List.getElem?_append_right (by omega), show (j + 1) * 7 + i - e.vals.length = j * 7 + i by omega]
      rw [ih j (by simpa using hj)]
      rfl
def OwnN (w : World) (B : Nat) (v : Value) (l : List Nv) : Prop := w.ownsRow B 27 7 v l.length (nvCells l)
theorem ownN_nil (w : World) (B : Nat) : OwnN w B (.slice none 0 0) [] := World.ownsRow_nil w B _ 7
theorem OwnN.alloc {w : World} {B : Nat} {v : Value} {l : List Nv} (h : OwnN w B v l) (o : Obj) : OwnN (w.alloc o) B v l := World.ownsRow.alloc h o
theorem OwnN.len {w : World} {B : Nat} {v : Value} {l : List Nv} (h : OwnN w B v l) : ∃ a cap, v = .slice a l.length cap := by
  rcases h.2 with ⟨rfl, h0⟩ | ⟨g, cap, cur, rfl, _⟩
  · exact ⟨none, 0, by rw [h0]⟩
  · exact ⟨_, _, rfl⟩
theorem OwnN.block {w w' : World} {B : Nat} {v : Value} {l : List Nv} (h : OwnN w B v l) (_hs : w.heap.size ≤ w'.heap.size) (hb : ∀ k, v.ownBlock = some k → w'.heap[k]? = w.heap[k]?) : OwnN w' B v l := by
  refine ⟨h.1, ?_⟩
  rcases h.2 with hn | ⟨g, cap, cur, rfl, hb0, hg, rest⟩
  · exact .inl hn
  · exact .inr ⟨g, cap, cur, rfl, hb0, (hb g rfl).trans hg, rest⟩
theorem infoNode : (Tryz.prog.info? 27).map (fun i => (i.zero, i.size, i.bytes)) = some (some (.agg (ndVals (.mk ⟨#[]⟩ 0 0 0 0 ⟨#[]⟩ []) (.slice none 0 0)).toArray), 7, 88) := by kernel_rfl
section
variable {w : World}
theorem ownN_append1 {ops : Array Oper} {rest : List Oper} {o : Oper} {a : Act} {Q : Exit → Act → World → Prop} (hgd : o.guard = none) (s x : Operand)
    (ho : o.op = .call { callee := .builtin .append, args := #[s, x], argTypes := #[25, 25] })
    (B : Nat) (v : Value) (l : List Nv) (hs : a.eval s = v) (hown : OwnN w B v l)
    (g c : Nat) (e : Nv) (hx : a.eval x = .slice (some ⟨g, 0, none⟩) 1 c) (hnew : w.heap[g]? = some (.cells e.vals.toArray 27 (0, 0)))
    (h1 : e.2.oneCell' = true)
    (hlen : l.length + 1 ≤ 1000000) (hbase : B ≤ w.heap.size)
    (h : ∀ v' w', OwnN w' B v' (l ++ [e]) → w.grownBy w' v.ownBlock → Below B w w' → (v'.ownBlock = v.ownBlock ∨ v'.ownBlock = some w.heap.size) → wpList Tryz.prog ops Q rest (a.put o.dst v') w') : wpList Tryz.prog ops Q (o :: rest) a w := by
  obtain ⟨i, hi, hz0, hz1, hz2⟩ := info_parts infoNode
  have hl : e.vals.length = 7 := nv_len e
  refine wpList_append_own_at w hgd s x 25 ho B 27 i _ 7 88 Tryz.underlying25 hi hz0 hz1 hz2 rfl (by decide) v l.length (nvCells l) hs hown ⟨g, 0, none⟩ 1 c e.vals hx (by rw [hl]) ?_ ?_ (by unfold maxLen; omega) (by omega) hbase ?_
  · intro j u hu
    rw [Addr.add_mid, Nat.zero_add]
    unfold World.cell?
    rw [hnew]
    simpa using hu
  · intro u hu
    obtain ⟨⟨nm, k, a, sz, n, t, kids⟩, kv⟩ := e
    simp only [Nv.vals, ndVals, List.mem_cons, List.mem_nil_iff, or_false] at hu
    rcases hu with rfl | rfl | rfl | rfl | rfl | rfl | rfl <;> first | rfl | exact h1
  · intro v' w' h2 h3 _ h5
    refine h v' w' ?_ h3 ((Below.refl B w).grown h3 hbase (fun k hk => (World.ownsRow.lt hown k hk).1)) h5
    unfold OwnN
    rw [List.length_append, ← nvCells_snoc]
    exact h2
end
/-! ### What may change -/
/-- w is W, but for the blocks in S and new ones. -/
structure Gr (S : Nat → Prop) (W w : World) : Prop where
  os : w.os = W.os
  tape : w.tape = W.tape
  output : w.output = W.output
  size : W.heap.size ≤ w.heap.size
  block : ∀ k, k < W.heap.size → ¬ S k → w.heap[k]? = W.heap[k]?
theorem Gr.refl (S : Nat → Prop) (W : World) : Gr S W W := ⟨rfl, rfl, rfl, Nat.le_refl _, fun _ _ _ => rfl⟩
theorem Gr.trans {S : Nat → Prop} {W w w' : World} (h : Gr S W w) (g : Gr S w w') : Gr S W w' :=
  ⟨g.os.trans h.os, g.tape.trans h.tape, g.output.trans h.output, Nat.le_trans h.size g.size, fun k hk hs => (g.block k (Nat.lt_of_lt_of_le hk h.size) hs).trans (h.block k hk hs)⟩
theorem Gr.of {S : Nat → Prop} {W w : World} {G : Nat} (h : W.grownBy w (some G)) (hS : S G) : Gr S W w :=
  ⟨h.os, h.tape, h.output, h.size, fun k hk hs => h.block k hk (fun e => by injection e with e; subst e; exact hs hS)⟩
theorem Gr.below {S : Nat → Prop} {W w : World} (h : Below W.heap.size W w) : Gr S W w := ⟨h.os, h.tape, h.output, h.size, fun k hk _ => h.block k hk⟩
theorem Gr.low {S S' : Nat → Prop} {W w w' : World} (h : Gr S W w) (g : Gr S' w w') (hS : ∀ k, k < W.heap.size → S' k → S k) : Gr S W w' :=
  ⟨g.os.trans h.os, g.tape.trans h.tape, g.output.trans h.output, Nat.le_trans h.size g.size, fun k hk hs => (g.block k (Nat.lt_of_lt_of_le hk h.size) (fun h' => hs (hS k hk h'))).trans (h.block k hk hs)⟩
theorem Gr.to_below {S : Nat → Prop} {W w w' : World} {B : Nat} (h : Below B W w) (g : Gr S w w') (hB : B ≤ w.heap.size) (hS : ∀ k, k < B → ¬ S k) : Below B W w' :=
  ⟨g.os.trans h.os, g.tape.trans h.tape, g.output.trans h.output, Nat.le_trans h.size g.size, fun k hk => (g.block k (by omega) (hS k hk)).trans (h.block k hk)⟩
/-- The view's block, and the names' map. -/
def GM (G : Nat) (mo : Option Nat) : Nat → Prop := fun k => k = G ∨ some k = mo
theorem gm_G (G : Nat) (mo : Option Nat) : GM G mo G := .inl rfl
/-! ### Names -/
def decN (M : ByteArray → Option Value) (f : Nf) : Prop := ∀ y, (M y = none ∧ f y = (0, false)) ∨ ∃ k : Int, M y = some (.int .i64 k) ∧ f y = (k, true) ∧ -9223372036854775808 ≤ k ∧ k ≤ 9223372036854775807
/-- The map mo, of at most K names, holds f. -/
def NmW (w : World) (mo : Option Nat) (f : Nf) (K : Nat) : Prop := (mo = none ∧ f = nf0) ∨ ∃ b n M, mo = some b ∧ Rmp.Rm w b n M ∧ n ≤ K ∧ decN M f
theorem NmW.mono {w : World} {mo : Option Nat} {f : Nf} {K K' : Nat} (h : NmW w mo f K) (hK : K ≤ K') : NmW w mo f K' := by
  rcases h with h | ⟨b, n, M, e, h1, h2, h3⟩
  · exact .inl h
  · exact .inr ⟨b, n, M, e, h1, Nat.le_trans h2 hK, h3⟩
theorem NmW.block {w w' : World} {mo : Option Nat} {f : Nf} {K : Nat} (h : NmW w mo f K) (hb : ∀ b, mo = some b → w'.heap[b]? = w.heap[b]?) : NmW w' mo f K := by
  rcases h with h | ⟨b, n, M, e, h1, h2, h3⟩
  · exact .inl h
  · exact .inr ⟨b, n, M, e, h1.block (hb b e), h2, h3⟩
theorem NmW.below {w w' : World} {mo : Option Nat} {f : Nf} {K : Nat} (h : NmW w mo f K) (hb : Below w.heap.size w w') : NmW w' mo f K := by
  rcases h with h | ⟨b, n, M, e, h1, h2, h3⟩
  · exact .inl h
  · exact .inr ⟨b, n, M, e, h1.below hb, h2, h3⟩
theorem NmW.lt {w : World} {mo : Option Nat} {f : Nf} {K : Nat} (h : NmW w mo f K) : ∀ b, mo = some b → b < w.heap.size := by
  intro b hb
  rcases h with ⟨e, _⟩ | ⟨b', n, M, e, h1, _⟩
  · rw [hb] at e; cases e
  · rw [hb] at e; injection e with e; subst e; exact h1.lt
theorem zeroN (w : World) : (zeroValue 3).run Tryz.prog w = .ok (.int .i64 0) w := by kernel_rfl
theorem NmW.nms {w : World} {mo : Option Nat} {f : Nf} {K : Nat} (h : NmW w mo f K) : Nms w mo f := by
  rcases h with ⟨rfl, rfl⟩ | ⟨b, n, M, rfl, h1, h2, h3⟩
  · exact nms_nil w
  intro W' hW y hy
  have hl := (h1.below hW).look Tryz.underlying126 (zeroN W') y (by unfold maxLen; omega)
  rcases h3 y with ⟨e1, e2⟩ | ⟨k, e1, e2, e3, e4⟩
  · rw [e1] at hl
    rw [hl, e2]
    exact ⟨rfl, by decide, by decide⟩
  · rw [e1] at hl
    rw [hl, e2]
    exact ⟨rfl, e3, e4⟩
theorem nmW_new (w : World) : NmW (w.alloc (.map #[] 0)) (some w.heap.size) nf0 0 := .inr ⟨_, 0, _, rfl, Rmp.rm_new w, Nat.le_refl _, fun _ => .inl ⟨rfl, rfl⟩⟩
theorem NmW.put {w : World} {mo : Option Nat} {f : Nf} {K : Nat} (h : NmW w mo f K) (hmo : mo ≠ none) (hK : K ≤ 100000) (y : ByteArray) (hy : y.size ≤ 1000) (k : Int) (hk : -9223372036854775808 ≤ k ∧ k ≤ 9223372036854775807) :
    ∃ w', (Instr.mapUpdate 126 (.map mo) (.string y) (.int .i64 k)).run Tryz.prog w = .ok () w' ∧ NmW w' mo (putN f y k) (K + 1) ∧ w.grownBy w' mo := by
  rcases h with ⟨e, _⟩ | ⟨b, n, M, rfl, h1, h2, h3⟩
  · exact absurd e hmo
  obtain ⟨w', r1, r2, r3⟩ := h1.put Tryz.underlying126 (by omega) y (by unfold maxLen; omega) (.int .i64 k)
  refine ⟨w', r1, .inr ⟨b, n + 1, _, rfl, r2, by omega, fun x => ?_⟩, r3⟩
  unfold Rmp.putM putN
  by_cases e : x = y
  · rw [if_pos e, if_pos e]
    exact .inr ⟨k, rfl, rfl, hk.1, hk.2⟩
  · rw [if_neg e, if_neg e]
    exact h3 x
/-! ### What hangs on parts -/
def NdF (lo : Nat) (w : World) (x : Nd) (kv : Value) : Prop := Fw lo w fun w2 => NdAt w2 x kv
def NdsF (lo : Nat) (w : World) (l : List Nd) (v : Value) : Prop := Fw lo w fun w2 => NdsAt w2 v l
def AllN (l : List Nv) (w : World) : Prop := ∀ p ∈ l, NdAt w p.1 p.2
theorem awN_nil (lo : Nat) (row : Option Nat) (w : World) : Aw lo row w (AllN []) := fun _ _ p hp => by simp at hp
theorem ndF_leaf (lo : Nat) (w : World) (nm : ByteArray) (k : Int) (a : Nat) (sz n : Int) (t : ByteArray) : NdF lo w (.mk nm k a sz n t []) (.slice none 0 0) := fun _ _ => (ndAt_iff _ _ _).2 ⟨none, 0, rfl, ⟨Nat.le_refl _, Nat.zero_le _⟩, trivial⟩
theorem ndF_kids {lo : Nat} {w : World} {l : List Nd} {v : Value} (h : NdsF lo w l v) (nm : ByteArray) (k : Int) (a : Nat) (sz n : Int) (t : ByteArray) : NdF lo w (.mk nm k a sz n t l) v := fun w2 hk => (ndAt_iff _ _ _).2 (h w2 hk)
theorem Fw.gr {lo : Nat} {w w' : World} {P : World → Prop} {S : Nat → Prop} (h : Fw lo w P) (g : Gr S w w') (hS : ∀ k, S k → k < lo) : Fw lo w' P :=
  Fw.later h g.size fun k h1 h2 => g.block k h2 (fun hs => by have := hS k hs; omega)
/-- One part more: what hung on the others, and on it, still does. -/
theorem awN_next {lo : Nat} {S : Nat → Prop} {wr w1 w2 w3 : World} {v v2 : Value} {l : List Nv} {p : Nv} (h : Aw lo v.ownBlock wr (AllN l)) (hp : NdF wr.heap.size w1 p.1 p.2)
    (hvb : ∀ k, v.ownBlock = some k → k < wr.heap.size) (hlo : lo ≤ wr.heap.size)
    (g1 : Gr S wr w1) (hS : ∀ k, S k → k < lo) (g2 : Below w1.heap.size w1 w2) (g3 : w2.grownBy w3 v.ownBlock) (hat : v2.ownBlock = v.ownBlock ∨ v2.ownBlock = some w2.heap.size) : Aw lo v2.ownBlock w3 (AllN (l ++ [p])) := by
  intro w4 h4
  have s1 := g1.size
  have s2 := g2.size
  have s3 := g3.size
  have hne : ∀ k, k < w2.heap.size → some k ≠ v.ownBlock → some k ≠ v2.ownBlock := by
    intro k hk hn
    rcases hat with e | e
    · rw [e]; exact hn
    · rw [e]; intro e2; simp only [Option.some.injEq] at e2; omega
  intro q hq
  rcases List.mem_append.1 hq with hq | hq
  · refine h w4 (fun k hk1 hk2 hk3 => ?_) q hq
    rw [h4 k hk1 (by omega) (hne k (by omega) hk3), g3.block k (by omega) hk3, g2.block k (by omega), g1.block k hk2 (fun hs => by have := hS k hs; omega)]
  · rw [List.mem_singleton] at hq
    subst hq
    refine hp w4 fun k hk1 hk2 => ?_
    have hk3 : some k ≠ v.ownBlock := fun e => by have := hvb k e.symm; omega
    rw [h4 k (by omega) (by omega) (hne k (by omega) hk3), g3.block k (by omega) hk3, g2.block k (by omega)]
theorem AwN.gr {lo : Nat} {row : Option Nat} {w w' : World} {P : World → Prop} {S : Nat → Prop} (h : Aw lo row w P) (g : Gr S w w') (hS : ∀ k, S k → k < lo) : Aw lo row w' P :=
  fun w2 h2 => h w2 fun k h3 h4 h5 => (h2 k h3 (Nat.lt_of_lt_of_le h4 g.size) h5).trans (g.block k h4 (fun hs => by have := hS k hs; omega))
/-- The list, once it is whole. -/
theorem nds_of {lo : Nat} {w : World} {v : Value} {l : List Nv} (ho : OwnN w lo v l) (h : Aw lo v.ownBlock w (AllN l)) : NdsF lo w (l.map (·.1)) v := by
  intro w2 h2
  have hA := h w2 (fun k h3 h4 _ => h2 k h3 h4)
  rcases ho.2 with ⟨rfl, h0⟩ | ⟨g, cap, cur, rfl, hg0, hg, hcp, hcm, _⟩
  · obtain rfl : l = [] := List.eq_nil_of_length_eq_zero h0
    exact ⟨none, 0, rfl, ⟨Nat.le_refl _, Nat.zero_le _⟩, by unfold NRow; trivial⟩
  · refine ⟨some ⟨g, 0, none⟩, cap, by simp, ⟨by simpa using hcp, hcm⟩, nRow_mk _ _ fun i hi => ?_⟩
    have hi' : i < l.length := by simpa using hi
    have hlt : g < w.heap.size := (Array.getElem?_eq_some_iff.1 hg).1
    refine ⟨_, l[i].2, rfl, fun m x hm => ?_, ?_⟩
    · rw [List.getElem_map] at hm
      have hm7 : m < 7 := by
        have := (List.getElem?_eq_some_iff.1 hm).1
        rw [ndVals_len] at this
        exact this
      have hc := World.ownsRow.cells ho (g := g) rfl (i * 7 + m) x (by rw [nvCells_get l i m hi' hm7]; exact hm)
      rw [Nat.zero_add]
      refine Eq.trans (World.cell?_of_block ?_) hc
      rw [show ((⟨g, 0, none⟩ : Addr).add (i * 7 + m)).block = g by unfold Addr.add; split <;> rfl]
      exact h2 g hg0 hlt
    · rw [List.getElem_map]
      exact hA l[i] (List.getElem_mem hi')
end Go.Proofs.YtkopjmofdnlplaaGreatDoor.Ly
namespace Go.Proofs.YtkopjmofdnlplaaGreatDoor.Ly
open Go.RowKit Go.Proofs.YtkopjmofdnlplaaGreatDoor.Tm
/-- A number out of its bytes. -/
def uD (wd od : Int) (t : ByteArray) : Nat := Word.leV (Word.src t 0 wd.toNat od.toNat) wd.toNat
def numD (wd od : Int) (sg : Bool) (t : ByteArray) : Int := if sg = true then Ws.sgn (uD wd od t : Nat) wd else wrap64 (uD wd od t : Nat)
/-- The block X holds a part's cells. -/
def NB (w : World) (X : Nat) (vs : List Value) : Prop := w.heap[X]? = some (.cells vs.toArray 27)
theorem NB.cell {w : World} {X : Nat} {vs : List Value} (h : NB w X vs) (j : Nat) : w.cell? ⟨X, j, none⟩ = vs[j]? := by
  unfold World.cell?
  rw [h]
  simp
theorem NB.free {w : World} {X : Nat} {vs : List Value} (h : NB w X vs) (j : Nat) : w.frozen? ⟨X, j, none⟩ = false := by
  unfold World.frozen?
  rw [show w.heap[X]? = _ from h]
  simp
theorem NB.lt {w : World} {X : Nat} {vs : List Value} (h : NB w X vs) : X < w.heap.size := (Array.getElem?_eq_some_iff.1 h).1
theorem NB.set {w : World} {X : Nat} {vs : List Value} (h : NB w X vs) (j : Nat) (v : Value) : NB (w.setCell ⟨X, j, none⟩ v) X (vs.set j v) := by
  unfold NB at h ⊢
  simp [World.setCell, Array.getElem?_modify, h]
theorem NB.gr {w w' : World} {X : Nat} {vs : List Value} {S : Nat → Prop} (h : NB w X vs) (hg : Gr S w w') (hne : ¬ S X) : NB w' X vs := (hg.block X h.lt hne).trans h
theorem NB.new (w : World) (vs : List Value) : NB (w.alloc (.cells vs.toArray 27)) w.heap.size vs := heap_alloc_new _ _
theorem NB.setOther {w : World} {X Y j : Nat} {v : Value} {vs : List Value} (h : NB w X vs) (hne : X ≠ Y) : NB (w.setCell ⟨Y, j, none⟩ v) X vs := (Below.heap_setCell _ _ _ _ hne).trans h
theorem IB.gr {w w' : World} {X : Nat} {vs : List Value} {S : Nat → Prop} (h : IB w X vs) (hg : Gr S w w') (hne : ¬ S X) : IB w' X vs := (hg.block X h.lt hne).trans h
def nd0 : List Value := [.string ⟨#[]⟩, .int .i64 0, .int .i64 0, .int .i64 0, .int .i64 0, .string ⟨#[]⟩, .slice none 0 0]
/-- What a method of the view is given. -/
structure OP (W0 : World) (G : Nat) (mo : Option Nat) (tv : Value) (s : ByteArray) (σ : Vw) (f : Nf) (K : Nat) (W : World) : Prop where
  b0 : Below W0.heap.size W0 W
  hG : W0.heap.size ≤ G
  hm : ∀ b, mo = some b → W0.heap.size ≤ b ∧ b ≠ G
  V : VS G tv s σ W
  N : NmW W mo f K
  kK : K ≤ σ.k
  k : σ.k ≤ 401
  kc : σ.c = 0 → σ.k ≤ 400
  p : σ.p ≤ s.size
  hs : s.size ≤ 1000
def OnP (W : World) (G : Nat) (mo : Option Nat) (tv : Value) (s : ByteArray) (K k : Nat) (R : Nd × Vw × Nf) (e : Ending) (w' : World) : Prop :=
  ∃ kv, e = .returned (.agg (ndVals R.1 kv).toArray) ∧ VS G tv s R.2.1 w' ∧ Gr (GM G mo) W w' ∧ NmW w' mo R.2.2 (K + (R.2.1.k - (k + 1))) ∧ k + 1 ≤ R.2.1.k ∧ R.2.1.k ≤ 401 ∧ (R.2.1.c = 0 → R.2.1.k ≤ 400) ∧ R.2.1.p ≤ s.size ∧ NdF W.heap.size w' R.1 kv ∧ (∃ a m c, kv = .slice a m c)
def BkP (W : World) (G : Nat) (mo : Option Nat) (tv : Value) (s : ByteArray) (K k : Nat) (R : List Nd × Vw × Nf) (e : Ending) (w' : World) : Prop :=
  ∃ kv, e = .returned kv ∧ VS G tv s R.2.1 w' ∧ Gr (GM G mo) W w' ∧ NmW w' mo R.2.2 (K + (R.2.1.k - k)) ∧ k ≤ R.2.1.k ∧ R.2.1.k ≤ 401 ∧ (R.2.1.c = 0 → R.2.1.k ≤ 400) ∧ R.2.1.p ≤ s.size ∧ NdsF W.heap.size w' R.1 kv ∧ (∃ a m c, kv = .slice a m c)
abbrev oneD (ts : List Ty) (s : ByteArray) (m : Nat) : One := oneV numD (itsT ts) s m
abbrev blkD (ts : List Ty) (s : ByteArray) (m : Nat) : Blk := fun l v f => blkG (oneD ts s m) l [] v f
def OneC (W0 : World) (ts : List Ty) (tv : Value) (s : ByteArray) (m : Nat) : Prop :=
  ∀ G mo σ f K W x cv iv, OP W0 G mo tv s σ f K W → σ.c = 0 → ItAt W0 x cv iv → WfI x → 401 ≤ m + σ.k → (mo ≠ none ∨ x.kind = 3) → Calls Tryz.prog 35 #[.pointer (some ⟨G, 0, none⟩), .agg (itVals x cv iv).toArray, .map mo] W (OnP W G mo tv s K σ.k (oneD ts s m x σ f))
def BlkC (W0 : World) (ts : List Ty) (tv : Value) (s : ByteArray) (m : Nat) : Prop :=
  ∀ G mo σ f K W l lv, OP W0 G mo tv s σ f K W → ItsAt W0 lv l → WfL l → 401 ≤ m + σ.k → mo ≠ none → l.length ≤ 16 → Calls Tryz.prog 76 #[.pointer (some ⟨G, 0, none⟩), lv, .map mo] W (BkP W G mo tv s K σ.k (blkD ts s m l σ f))
/-- The memory while one of an item is read: I holds the item, I + 1 the result, I + 2 the part. -/
structure OS (W0 W : World) (G : Nat) (mo : Option Nat) (tv : Value) (s : ByteArray) (I : Nat) (xs : List Value) (σ : Vw) (f : Nf) (K : Nat) (vs : List Value) (w : World) : Prop where
  b0 : Below W0.heap.size W0 w
  V : VS G tv s σ w
  g : Gr (GM G mo) W w
  N : NmW w mo f K
  ix : IB w I xs
  rx : NB w (I + 1) nd0
  bx : NB w (I + 2) vs
  hI : W.heap.size ≤ I
  hG : G < W.heap.size
  hm : ∀ b, mo = some b → b < W.heap.size ∧ b ≠ G
  lo : W0.heap.size ≤ W.heap.size
  lG : W0.heap.size ≤ G
  lm : ∀ b, mo = some b → W0.heap.size ≤ b
section
variable {W0 W w w' : World} {G : Nat} {mo : Option Nat} {tv : Value} {s : ByteArray} {I : Nat} {xs : List Value} {σ σ' : Vw} {f f' : Nf} {K K' : Nat} {vs : List Value}
theorem gm_not {k : Nat} (h1 : G < k) (h2 : ∀ b, mo = some b → b < k) : ¬ GM G mo k := by
  rintro (e | e)
  · omega
  · have := h2 k e.symm
    omega
theorem OS.gr (h : OS W0 W G mo tv s I xs σ f K vs w) (g : Gr (GM G mo) w w') (V' : VS G tv s σ' w') (N' : NmW w' mo f' K') : OS W0 W G mo tv s I xs σ' f' K' vs w' := by
  have hI := h.hI
  have hG := h.hG
  have hm := h.hm
  have n : ∀ j, ¬ GM G mo (I + j) := fun j => gm_not (by omega) fun b hb => by have := (hm b hb).1; omega
  refine ⟨Gr.to_below h.b0 g h.b0.size (fun k hk hS => ?_), V', h.g.trans g, N', IB.gr h.ix g (n 0), h.rx.gr g (n 1), h.bx.gr g (n 2), hI, hG, hm, h.lo, h.lG, h.lm⟩
  rcases hS with e | e
  · have := h.lG; omega
  · have := h.lm k e.symm; omega
theorem OS.view (h : OS W0 W G mo tv s I xs σ f K vs w) (hs : StV G tv s σ' w w') : OS W0 W G mo tv s I xs σ' f K vs w' := by
  refine h.gr (Gr.of hs.2 (gm_G G mo)) hs.1 (h.N.block fun b hb => ?_)
  have hlt := h.N.lt b hb
  exact hs.2.block b hlt (fun e2 => by injection e2 with e2; exact (h.hm b hb).2 e2)
theorem OS.below (h : OS W0 W G mo tv s I xs σ f K vs w) (hb : Below w.heap.size w w') : OS W0 W G mo tv s I xs σ f K vs w' := h.gr (Gr.below hb) (h.V.below hb) (h.N.below hb)
theorem OS.drew' (h : OS W0 W G mo tv s I xs σ f K vs w) : OS W0 W G mo tv s I xs σ f K vs w.drew := h.below (Below.refl _ _).drew
/-- A call with a map of its own. -/
theorem OS.own {b : Nat} (h : OS W0 W G mo tv s I xs σ f K vs w) (g : Gr (GM G (some b)) w w') (hb : w.heap.size ≤ b) (V' : VS G tv s σ' w') : OS W0 W G mo tv s I xs σ' f K vs w' := by
  have g2 : Gr (GM G mo) w w' := ⟨g.os, g.tape, g.output, g.size, fun k hk hS => g.block k hk (fun h2 => by
    rcases h2 with e | e
    · exact hS (.inl e)
    · injection e with e; omega)⟩
  refine h.gr g2 V' (h.N.block fun b2 hb2 => ?_)
  have hlt := h.N.lt b2 hb2
  refine g.block b2 hlt fun h2 => ?_
  rcases h2 with e | e
  · exact (h.hm b2 hb2).2 e
  · injection e with e; omega
theorem OS.set (h : OS W0 W G mo tv s I xs σ f K vs w) (j : Nat) (v : Value) : OS W0 W G mo tv s I xs σ f K (vs.set j v) (w.setCell ⟨I + 2, j, none⟩ v) := by
  have hI := h.hI
  have hG := h.hG
  have e : ∀ k, k ≠ I + 2 → (w.setCell ⟨I + 2, j, none⟩ v).heap[k]? = w.heap[k]? := fun k hk => Below.heap_setCell _ _ _ _ hk
  have sz : (w.setCell ⟨I + 2, j, none⟩ v).heap.size = w.heap.size := by simp [World.setCell]
  have lo := h.lo
  have b0 := h.b0
  have hg := h.g
  refine ⟨⟨b0.os, b0.tape, b0.output, by rw [sz]; exact b0.size, fun k hk => (e k (by omega)).trans (b0.block k hk)⟩, h.V.block (e G (by omega)), ⟨hg.os, hg.tape, hg.output, by rw [sz]; exact hg.size, fun k hk hS => (e k (by omega)).trans (hg.block k hk hS)⟩, h.N.block fun b hb => e b (by have := (h.hm b hb).1; omega), h.ix.setOther (by omega), h.rx.setOther (by omega), h.bx.set j v, hI, hG, h.hm, lo, h.lG, h.lm⟩
theorem OS.op (h : OS W0 W G mo tv s I xs σ f K vs w) (kK : K ≤ σ.k) (k : σ.k ≤ 401) (kc : σ.c = 0 → σ.k ≤ 400) (p : σ.p ≤ s.size) (hs : s.size ≤ 1000) : OP W0 G mo tv s σ f K w :=
  ⟨h.b0, h.lG, fun b hb => ⟨h.lm b hb, (h.hm b hb).2⟩, h.V, h.N, kK, k, kc, p, hs⟩
theorem OS.nds (_h : OS W0 W G mo tv s I xs σ f K vs w) {l : List Nd} {kv : Value} (hF : NdsF (I + 3) w l kv) (j : Nat) (v : Value) : NdsF (I + 3) (w.setCell ⟨I + 2, j, none⟩ v) l kv :=
  Fw.later hF (by simp [World.setCell]) fun k h1 _ => Below.heap_setCell _ _ _ _ (show k ≠ I + 2 by omega)
theorem OS.ndsGr (h : OS W0 W G mo tv s I xs σ f K vs w) {l : List Nd} {kv : Value} (hF : NdsF (I + 3) w l kv) (g : Gr (GM G mo) w w') : NdsF (I + 3) w' l kv :=
  Fw.gr hF g fun k hS => by
    have hI := h.hI
    have hG := h.hG
    rcases hS with e | e
    · omega
    · have := (h.hm k e.symm).1; omega
/-- While the result is stored. -/
structure RS (W : World) (G : Nat) (mo : Option Nat) (tv : Value) (s : ByteArray) (I : Nat) (σ : Vw) (f : Nf) (K : Nat) (l : List Nd) (kv : Value) (rs : List Value) (w : World) : Prop where
  V : VS G tv s σ w
  g : Gr (GM G mo) W w
  N : NmW w mo f K
  rx : NB w (I + 1) rs
  F : NdsF (I + 3) w l kv
  hI : W.heap.size ≤ I
  hG : G < W.heap.size
  hm : ∀ b, mo = some b → b < W.heap.size
theorem OS.rs (h : OS W0 W G mo tv s I xs σ f K vs w) {l : List Nd} {kv : Value} (hF : NdsF (I + 3) w l kv) : RS W G mo tv s I σ f K l kv nd0 w := ⟨h.V, h.g, h.N, h.rx, hF, h.hI, h.hG, fun b hb => (h.hm b hb).1⟩
theorem RS.set {l : List Nd} {kv : Value} {rs : List Value} (h : RS W G mo tv s I σ f K l kv rs w) (j : Nat) (v : Value) : RS W G mo tv s I σ f K l kv (rs.set j v) (w.setCell ⟨I + 1, j, none⟩ v) := by
  have hI := h.hI
  have hG := h.hG
  have e : ∀ k, k ≠ I + 1 → (w.setCell ⟨I + 1, j, none⟩ v).heap[k]? = w.heap[k]? := fun k hk => Below.heap_setCell _ _ _ _ hk
  have sz : (w.setCell ⟨I + 1, j, none⟩ v).heap.size = w.heap.size := by simp [World.setCell]
  have hg := h.g
  exact ⟨h.V.block (e G (by omega)), ⟨hg.os, hg.tape, hg.output, by rw [sz]; exact hg.size, fun k hk hS => (e k (by omega)).trans (hg.block k hk hS)⟩, h.N.block fun b hb => e b (by have := h.hm b hb; omega), h.rx.set j v, Fw.later h.F (by rw [sz]; exact Nat.le_refl _) fun k h1 _ => e k (by omega), hI, hG, h.hm⟩
def Bds (s : ByteArray) (K k K' : Nat) (σ' : Vw) : Prop := K' ≤ K + (σ'.k - (k + 1)) ∧ k + 1 ≤ σ'.k ∧ σ'.k ≤ 401 ∧ (σ'.c = 0 → σ'.k ≤ 400) ∧ σ'.p ≤ s.size
theorem RS.post {l : List Nd} {a : Option Addr} {m c : Nat} {rs : List Value} {R : Nd × Vw × Nf} {nm : ByteArray} {kd sz n : Int} {p0 k K1 : Nat} {t : ByteArray} (h : RS W G mo tv s I σ f K l (.slice a m c) rs w) (hR : R = (.mk nm kd p0 sz n t l, σ, f)) (hb : Bds s K1 k K σ) :
    OnP W G mo tv s K1 k R (.returned (.agg #[.string nm, .int .i64 kd, .int .i64 (p0 : Nat), .int .i64 sz, .int .i64 n, .string t, .slice a m c])) w := by
  subst hR
  obtain ⟨b1, b2, b3, b4, b5⟩ := hb
  exact ⟨.slice a m c, rfl, h.V, h.g, h.N.mono b1, b2, b3, b4, b5, ndF_kids (Fw.low h.F (by have := h.hI; omega)) _ _ _ _ _ _, _, _, _, rfl⟩
theorem begV_facts (v : Vw) : (begV v).p = v.p ∧ (begV v).k = v.k + 1 ∧ ((begV v).c = 0 → v.k + 1 ≤ 400 ∧ v.c = 0) := by
  unfold begV
  by_cases h : 400 < v.k + 1
  · rw [if_pos h]
    unfold wrV
    by_cases h0 : v.c = 0
    · simp [h0]
    · simp [h0]
  · rw [if_neg h]
    exact ⟨rfl, rfl, fun e => ⟨by omega, e⟩⟩
theorem cntV_facts (q : Int × Int × Int) (v : Vw) : (cntV q v).p = v.p ∧ (cntV q v).k = v.k ∧ ((cntV q v).c = 0 → v.c = 0) := by
  unfold cntV
  split
  · rename_i h
    exact ⟨rfl, rfl, fun _ => h.1⟩
  · exact ⟨rfl, rfl, fun e => e⟩
theorem wrV_facts (v : Vw) (e : Int) (he : e ≠ 0) : (wrV v e).p = v.p ∧ (wrV v e).k = v.k ∧ (wrV v e).c ≠ 0 := by
  unfold wrV
  by_cases h : v.c = 0
  · rw [if_pos h]; exact ⟨rfl, rfl, he⟩
  · rw [if_neg h]; exact ⟨rfl, rfl, h⟩
theorem bytV_facts (s : ByteArray) (n : Int) (v : Vw) (hp : v.p ≤ s.size) : (bytV s n v).2.k = v.k ∧ ((bytV s n v).2.c = 0 → v.c = 0) ∧ (bytV s n v).2.p ≤ s.size ∧ ((bytV s n v).1 = emp ∨ ((bytV s n v).1.size : Int) = n) := by
  have hO := offV_ok (s := s) (v := v) (n := n) hp
  unfold bytV cutV
  by_cases hc : (offV s n v).c = 0
  · obtain ⟨e, h0, h1⟩ := hO hc
    rw [e] at hc ⊢
    rw [if_neg (by simp [hc])]
    refine ⟨rfl, fun e => e, ?_, .inr ?_⟩
    · show v.p + n.toNat ≤ s.size
      omega
    · show ((s.extract v.p (v.p + n.toNat)).size : Int) = n
      rw [Word.extract_size s v.p (v.p + n.toNat) (by omega) (by omega)]
      omega
  · rw [if_pos hc]
    have hw := wrV_facts v 3 (by decide)
    unfold offV at hc ⊢
    split
    · exact ⟨hw.2.1, fun e => absurd e hw.2.2, by rw [hw.1]; exact hp, .inl rfl⟩
    · exact ⟨rfl, fun e => e, hp, .inl rfl⟩
/-- Ahead of the size. -/
def MidR (W0 W : World) (G : Nat) (mo : Option Nat) (tv : Value) (s : ByteArray) (I : Nat) (xs : List Value) (nm : ByteArray) (kd : Int) (p0 K k : Nat) (R : Nd × Vw × Nf) (w : World) : Prop :=
  ∃ (σ' : Vw) (f' : Nf) (K' : Nat) (n : Int) (t : ByteArray) (kids : List Nd) (a : Option Addr) (m c : Nat),
    Hid (OS W0 W G mo tv s I xs σ' f' K' [.string nm, .int .i64 kd, .int .i64 (p0 : Nat), .int .i64 0, .int .i64 n, .string t, .slice a m c] w) ∧ Hid (NdsF (I + 3) w kids (.slice a m c)) ∧ Hid (R = (.mk nm kd p0 ((σ'.p : Int) - (p0 : Int)) n t kids, σ', f'))
    ∧ Hid (Bds s K k K' σ')
theorem nds_nil (lo : Nat) (w : World) : NdsF lo w [] (.slice none 0 0) := fun _ _ => ⟨none, 0, rfl, ⟨Nat.le_refl _, Nat.zero_le _⟩, by unfold NRow; trivial⟩
end
set_option maxRecDepth 100000 in
theorem one_results (tmps : Array Value) (w : World) (R : Nat) (v0 v1 v2 v3 v4 v5 v6 : Value) (h4 : tmps.getD 6 undef = .pointer (some ⟨R, 0, none⟩)) (hb : NB w R [v0, v1, v2, v3, v4, v5, v6]) :
    (results Tryz.f35 tmps).run Tryz.prog w = .ok (.agg #[v0, v1, v2, v3, v4, v5, v6]) w := by
  have h4' : tmps[6]?.getD undef = .pointer (some ⟨R, 0, none⟩) := by simpa using h4
  have c0 : w.cell? ⟨R, 0, none⟩ = some v0 := hb.cell 0
  have c1 : w.cell? ⟨R, 1, none⟩ = some v1 := hb.cell 1
  have c2 : w.cell? ⟨R, 2, none⟩ = some v2 := hb.cell 2
  have c3 : w.cell? ⟨R, 3, none⟩ = some v3 := hb.cell 3
  have c4 : w.cell? ⟨R, 4, none⟩ = some v4 := hb.cell 4
  have c5 : w.cell? ⟨R, 5, none⟩ = some v5 := hb.cell 5
  have c6 : w.cell? ⟨R, 6, none⟩ = some v6 := hb.cell 6
  simp only [results, Tryz.f35]
  simp [go_sem, h4', c0, c1, c2, c3, c4, c5, c6]
end Go.Proofs.YtkopjmofdnlplaaGreatDoor.Ly
