/-
  PROVED HERE: what is wrong first in a block of items, plain; memory where one map changes alone. Conditions: as each theorem states.
-/
import Derived.Test.YtpnjlmpamincoaaDoorTmY
namespace Go.Proofs.YtpnjlmpamincoaaDoor.Tm
open Go.RowKit Go.Proofs.YtpnjlmpamincoaaDoor.Lex Go.Proofs.YtpnjlmpamincoaaDoor.Dig
/-! ### Plain -/
def putM (M : ByteArray → Bool) (s : ByteArray) : ByteArray → Bool := fun y => if y = s then true else M y
abbrev Ir := (Int × Int) × (ByteArray → Bool) × List ByteArray
def manyAt (l : List It) (a : Int) : Bool := match l[a.toNat]? with | some y => y.many | none => false
def ruleB (l : List It) (x : It) : Int := if x.rule = 3 then whichI l x.last else whichI l x.first
/-- What is wrong with the rule of the item i. -/
def ruleF (l : List It) (i : Nat) (x : It) : Int × Int :=
  if x.rule = 0 then good
  else if whichI l x.first < 0 ∨ ruleB l x < 0 then (7, (x.at_ : Int))
  else if (x.rule = 2 ∧ manyAt l (whichI l x.first) = false) ∨ (x.rule = 3 ∧ (x.width ≠ 4 ∨ x.signed = true)) then (13, (x.at_ : Int))
  else if ruleB l x < whichI l x.first then (10, (x.at_ : Int))
  else if whichI l x.first ≤ i ∧ (i : Int) ≤ ruleB l x then (6, (x.at_ : Int))
  else good
open Classical in
noncomputable def cycF (l : List It) (i : Nat) (x : It) : Int × Int := if x.rule = 3 ∧ Rch l i i then (11, (x.at_ : Int)) else good
/-- The first that is wrong. -/
def firstOf (f : Nat → It → Int × Int) : List It → Nat → Int × Int
  | [], _ => good
  | x :: r, i => if (f i x).1 ≠ 0 then f i x else firstOf f r (i + 1)
theorem firstOf_step {f : Nat → It → Int × Int} {l : List It} {k : Nat} (h : k < l.length) : firstOf f (l.drop k) k = if (f k l[k]).1 ≠ 0 then f k l[k] else firstOf f (l.drop (k + 1)) (k + 1) := by
  rw [List.drop_eq_getElem_cons h, firstOf]
theorem firstOf_end {f : Nat → It → Int × Int} {l : List It} {k : Nat} (h : ¬ k < l.length) : firstOf f (l.drop k) k = good := by
  rw [List.drop_eq_nil_iff.2 (by omega)]
  rfl
noncomputable def rulesF (l : List It) : Int × Int :=
  if (firstOf (ruleF l) l 0).1 ≠ 0 then firstOf (ruleF l) l 0 else firstOf (cycF l) l 0
/-- The end of an item, whose name (if it has one) is put, and whose names are looked for. -/
def tailF (k : Int) (n : ByteArray) (mn : Bool) (h : Int × Int) (M : ByteArray → Bool) (seen : List ByteArray) : Ir :=
  if h.1 ≠ 0 then (h, M, seen) else if k = 1 ∧ mn = false then (good, M, seen ++ [n]) else (good, M, seen)
mutual
noncomputable def itemF (T : ByteArray → Bool) : It → (ByteArray → Bool) → List ByteArray → Ir
  | .mk k a n t _ _ _ mn c _ _ _ its, M, seen =>
    if k = 4 then
      if (hasC seen (ctN c)).1 ≠ 0 then (hasC seen (ctN c), M, seen)
      else
        let r := itemsF T its M seen
        (if r.1.1 ≠ 0 then r.1 else rulesF its, r.2.1, seen)
    else if M n = true then ((9, (a : Int)), M, seen)
    else if k = 3 ∧ T t = false then ((7, (a : Int)), putM M n, seen)
    else tailF k n mn (hasC seen (ctN c)) (putM M n) seen
noncomputable def itemsF (T : ByteArray → Bool) : List It → (ByteArray → Bool) → List ByteArray → Ir
  | [], M, seen => (good, M, seen)
  | x :: r, M, seen => let q := itemF T x M seen; if q.1.1 ≠ 0 then q else itemsF T r q.2.1 q.2.2
end
noncomputable def blockF (T : ByteArray → Bool) (l : List It) (M : ByteArray → Bool) (seen : List ByteArray) : (Int × Int) × (ByteArray → Bool) :=
  let r := itemsF T l M seen; (if r.1.1 ≠ 0 then r.1 else rulesF l, r.2.1)
theorem itemF_when {T : ByteArray → Bool} {x : It} {M : ByteArray → Bool} {seen : List ByteArray} (h : x.kind = 4) : itemF T x M seen = if (hasC seen (ctN x.count)).1 ≠ 0 then (hasC seen (ctN x.count), M, seen) else ((blockF T x.items M seen).1, (blockF T x.items M seen).2, seen) := by
  cases x
  simp only [It.kind] at h
  subst h
  simp only [itemF, It.count, It.items, blockF, if_true]
  rfl
theorem itemF_other {T : ByteArray → Bool} {x : It} {M : ByteArray → Bool} {seen : List ByteArray} (h : x.kind ≠ 4) : itemF T x M seen = if M x.name = true then ((9, (x.at_ : Int)), M, seen) else if x.kind = 3 ∧ T x.type = false then ((7, (x.at_ : Int)), putM M x.name, seen) else tailF x.kind x.name x.many (hasC seen (ctN x.count)) (putM M x.name) seen := by
  cases x
  simp only [It.kind] at h
  simp only [itemF, It.kind, It.name, It.type, It.many, It.count, It.at_, if_neg h]
  rfl
theorem itemsF_step {T : ByteArray → Bool} {l : List It} {M : ByteArray → Bool} {seen : List ByteArray} {k : Nat} (h : k < l.length) : itemsF T (l.drop k) M seen = if (itemF T l[k] M seen).1.1 ≠ 0 then itemF T l[k] M seen else itemsF T (l.drop (k + 1)) (itemF T l[k] M seen).2.1 (itemF T l[k] M seen).2.2 := by
  rw [List.drop_eq_getElem_cons h, itemsF]
theorem itemsF_end {T : ByteArray → Bool} {l : List It} {M : ByteArray → Bool} {seen : List ByteArray} {k : Nat} (h : ¬ k < l.length) : itemsF T (l.drop k) M seen = (good, M, seen) := by
  rw [List.drop_eq_nil_iff.2 (by omega), itemsF]
theorem cl_drop {l : List It} {k : Nat} (h : k < l.length) : cl (l.drop k) = ci l[k] + cl (l.drop (k + 1)) := by
  rw [List.drop_eq_getElem_cons h, cl]
theorem ci_eq (x : It) : ci x = 1 + cl x.items := by cases x; simp only [ci, It.items]
theorem cl_len (l : List It) : l.length ≤ cl l := by
  induction l with
  | nil => simp [cl]
  | cons x r ih => simp only [cl, List.length_cons, ci_eq]; omega
/-! ### Memory -/
/-- What was a row of cells is so still. -/
def Ck (w w' : World) : Prop := ∀ (k : Nat) (cs : Array Value) (T : Nat) (z : Nat × Nat), w.heap[k]? = some (Obj.cells cs T z) → w'.heap[k]? = some (Obj.cells cs T z)
theorem Ck.cell {w w' : World} (h : Ck w w') {a : Addr} {v : Value} (hc : w.cell? a = some v) : w'.cell? a = some v := by
  unfold World.cell? at hc ⊢
  cases hb : w.heap[a.block]? with
  | none => rw [hb] at hc; simp at hc
  | some o =>
    cases o with
    | cells cs T z => rw [hb] at hc; rw [h _ _ _ _ hb]; exact hc
    | _ => rw [hb] at hc; simp at hc
theorem Ck.below {w w' : World} (hb : Below w.heap.size w w') : Ck w w' := fun k _ _ _ h => (hb.block k (Array.getElem?_eq_some_iff.1 h).1).trans h
theorem Ck.refl (w : World) : Ck w w := fun _ _ _ _ h => h
theorem Ck.trans {a b c : World} (h : Ck a b) (g : Ck b c) : Ck a c := fun k cs T z e => g k cs T z (h k cs T z e)
theorem Ck.grown {w w' : World} {m : Nat} {es : Array MapEntry} {c : Nat} (hm : w.heap[m]? = some (.map es c)) (hg : w.grownBy w' (some m)) : Ck w w' := fun k cs T z h => by
  refine (hg.block k (Array.getElem?_eq_some_iff.1 h).1 (fun e => ?_)).trans h
  injection e with e
  rw [e, hm] at h
  cases h
theorem exAt_ck {w w' : World} (hb : Ck w w') : ∀ (x : Ex) (v : Value), ExAt w x v → ExAt w' x v := by
  intro x
  induction x with
  | num k n => intro v h; unfold ExAt at h ⊢; obtain ⟨g, e, h⟩ := h; exact ⟨g, e, hb _ _ _ _ h⟩
  | nam k n => intro v h; unfold ExAt at h ⊢; obtain ⟨g, e, h⟩ := h; exact ⟨g, e, hb _ _ _ _ h⟩
  | bin k op l r ihl ihr => intro v h; unfold ExAt at h ⊢; obtain ⟨g, a, b, e, h, h1, h2⟩ := h; exact ⟨g, a, b, e, hb _ _ _ _ h, ihl a h1, ihr b h2⟩
theorem ctAt_ck {w w' : World} (hb : Ck w w') : ∀ (x : Option Ex) (v : Value), CtAt w x v → CtAt w' x v
  | none, _, h => h
  | some x, v, h => exAt_ck hb x v h
mutual
theorem itAt_ck {w w' : World} (hb : Ck w w') : (x : It) → (cv iv : Value) → ItAt w x cv iv → ItAt w' x cv iv
  | .mk _ _ _ _ _ _ _ _ ct _ _ _ items, cv, iv, h => by
    unfold ItAt at h ⊢
    obtain ⟨h1, a, cap, e, hl, hr⟩ := h
    exact ⟨ctAt_ck hb _ _ h1, a, cap, e, hl, rowAt_ck hb items a 0 hr⟩
theorem rowAt_ck {w w' : World} (hb : Ck w w') : (l : List It) → (a : Option Addr) → (j : Nat) → RowAt w l a j → RowAt w' l a j
  | [], _, _, _ => by unfold RowAt; trivial
  | x :: r, a, j, h => by
    unfold RowAt at h ⊢
    obtain ⟨⟨ad, cv, iv, e, hc, hi⟩, hr⟩ := h
    exact ⟨⟨ad, cv, iv, e, fun m v hm => hb.cell (hc m v hm), itAt_ck hb x cv iv hi⟩, rowAt_ck hb r a (j + 1) hr⟩
end
theorem ItsAt.ck {w w' : World} {v : Value} {l : List It} (h : ItsAt w v l) (hb : Ck w w') : ItsAt w' v l := by
  obtain ⟨a, cap, e, hl, hr⟩ := h
  exact ⟨a, cap, e, hl, rowAt_ck hb l a 0 hr⟩
theorem StrsAt.ck {w w' : World} {v : Value} {xs : List ByteArray} (h : StrsAt w v xs) (hb : Ck w w') : StrsAt w' v xs := by
  obtain ⟨a, cap, e, hc, h⟩ := h
  refine ⟨a, cap, e, hc, fun j hj => ?_⟩
  obtain ⟨b, o, e, hj⟩ := h j hj
  exact ⟨b, o, e, hb.cell hj⟩
theorem MS.block {w : World} {b n : Nat} {M : ByteArray → Bool} (h : MS w b n M) : ∃ es c, w.heap[b]? = some (.map es c) := by
  obtain ⟨D, ⟨es, c, h, _⟩, _⟩ := h
  exact ⟨es, c, h⟩
theorem MS.le {w : World} {b n n' : Nat} {M : ByteArray → Bool} (h : MS w b n M) (hn : n ≤ n') : MS w b n' M := by
  obtain ⟨D, ⟨es, c, h1, h2, h3, h4⟩, h5⟩ := h
  exact ⟨D, ⟨es, c, h1, h2, Nat.le_trans h3 hn, h4⟩, h5⟩
/-- The memory of a call of blockWrong: the map of names at mb, the box of what is seen, the box of what is returned. -/
structure BM (W : World) (mb n : Nat) (M : ByteArray → Bool) (sv : Value) (w : World) : Prop where
  gb : W.grownBy w (some mb)
  ms : MS w mb n M
  bx : w.heap[W.heap.size]? = some (.cells #[sv] 57)
  fl : w.heap[W.heap.size + 1]? = some (.cells #[.int .i64 0, .int .i64 0] 26)
  lt : mb < W.heap.size
theorem BM.below {W w w' : World} {mb n : Nat} {M : ByteArray → Bool} {sv : Value} (h : BM W mb n M sv w) (hb : Below w.heap.size w w') : BM W mb n M sv w' :=
  ⟨gb_trans h.gb (gb_below _ hb), h.ms.below hb, (hb.block _ (Array.getElem?_eq_some_iff.1 h.bx).1).trans h.bx, (hb.block _ (Array.getElem?_eq_some_iff.1 h.fl).1).trans h.fl, h.lt⟩
theorem BM.put {W w w' : World} {mb n n' : Nat} {M M' : ByteArray → Bool} {sv : Value} (h : BM W mb n M sv w) (hg : w.grownBy w' (some mb)) (hm : MS w' mb n' M') : BM W mb n' M' sv w' := by
  have hl := h.lt
  exact ⟨gb_trans h.gb hg, hm, (hg.block _ (Array.getElem?_eq_some_iff.1 h.bx).1 (fun e => by injection e; omega)).trans h.bx, (hg.block _ (Array.getElem?_eq_some_iff.1 h.fl).1 (fun e => by injection e; omega)).trans h.fl, hl⟩
theorem BM.seen {W w : World} {mb n : Nat} {M : ByteArray → Bool} {sv : Value} (h : BM W mb n M sv w) (v : Value) : BM W mb n M v (w.setCell ⟨W.heap.size, 0, none⟩ v) := by
  have hl := h.lt
  have hs : (w.setCell ⟨W.heap.size, 0, none⟩ v).heap.size = w.heap.size := by simp [World.setCell]
  have hg : w.grownBy (w.setCell ⟨W.heap.size, 0, none⟩ v) (some W.heap.size) := gb_set
  refine ⟨⟨h.gb.os, h.gb.tape, h.gb.output, by rw [hs]; exact h.gb.size, fun k hk hr => (Below.heap_setCell _ _ _ _ (show k ≠ W.heap.size by omega)).trans (h.gb.block k hk hr)⟩, h.ms.kept hg (fun e => by injection e; omega), ?_, (Below.heap_setCell _ _ _ _ (show W.heap.size + 1 ≠ W.heap.size by omega)).trans h.fl, hl⟩
  have := h.bx
  simp [World.setCell, Array.getElem?_modify, this]
theorem BM.drew {W w : World} {mb n : Nat} {M : ByteArray → Bool} {sv : Value} (h : BM W mb n M sv w) : BM W mb n M sv w.drew := h.below (Below.refl _ _).drew
theorem BM.box {W w : World} {mb n : Nat} {M : ByteArray → Bool} {sv : Value} (h : BM W mb n M sv w) : w.cell? ⟨W.heap.size, 0, none⟩ = some sv ∧ w.frozen? ⟨W.heap.size, 0, none⟩ = false := by
  unfold World.cell? World.frozen?
  rw [h.bx]
  exact ⟨rfl, rfl⟩
theorem BM.flt {W w : World} {mb n : Nat} {M : ByteArray → Bool} {sv : Value} (h : BM W mb n M sv w) : w.cell? ⟨W.heap.size + 1, 0, none⟩ = some (.int .i64 0) ∧ w.cell? ⟨W.heap.size + 1, 1, none⟩ = some (.int .i64 0) ∧ ∀ j, w.frozen? ⟨W.heap.size + 1, j, none⟩ = false := by
  refine ⟨by unfold World.cell?; rw [h.fl]; rfl, by unfold World.cell?; rw [h.fl]; rfl, fun j => ?_⟩
  unfold World.frozen?
  rw [h.fl]
  rfl
theorem BM.ck {W w : World} {mb n n0 : Nat} {M M0 : ByteArray → Bool} {sv : Value} (h : BM W mb n M sv w) (h0 : MS W mb n0 M0) : Ck W w := by
  obtain ⟨es, c, hm⟩ := h0.block
  exact Ck.grown hm h.gb
/-- append of one text to a slice without room. -/
theorem strs_grow {w : World} {a : Option Addr} {cap : Nat} {xs : List ByteArray} (h : StrsAt w (.slice a xs.length cap) xs) (hl : xs.length ≤ 1000000) (s : ByteArray) {x : Value} (hs : Src Tryd.prog 1 57 x 1 [Value.string s] w) (ty : Nat) :
    ∃ v' w', (Builtin.append_ #[57, 57] ty #[.slice a xs.length xs.length, x]).run Tryd.prog w = .ok v' w' ∧ StrsAt w' v' (xs ++ [s]) ∧ Below w.heap.size w w' ∧ ∃ c, v' = .slice (some ⟨w.heap.size, 0, none⟩) (xs.length + 1) c := by
  have hinfo : (Tryd.prog.info? 9).map (fun i => (i.zero, i.size, i.bytes)) = some (some (.string ⟨#[]⟩), 1, 16) := by kernel_rfl
  obtain ⟨i, hi, hz0, hz1, hz2⟩ := info_parts hinfo
  have ht : Tryd.prog.underlying 57 = some (.slice 9) := Tryd.underlying57
  have hs1 : Src Tryd.prog i.size 57 x 1 [.string s] w := by rw [hz1]; exact hs
  have hn : (xs.map Value.string).length = xs.length := List.length_map ..
  have hfc : ∃ ys, ys = xs.map Value.string ∧ ∀ r : Nat, r = i.size → True := ⟨_, rfl, fun _ _ => trivial⟩
  have key : ∀ (wd : World), wd = w.drew → (Builtin.append_ #[57, 57] ty #[.slice a xs.length xs.length, x]).run Tryd.prog w = .ok (.slice (some ⟨w.heap.size, 0, none⟩) (xs.length + 1) (grownCap w (xs.length + 1) xs.length 9)) (w.drew.alloc (.cells ((xs.map Value.string ++ [Value.string s]).toArray ++ Builtin.zeroCells (Value.string ⟨#[]⟩).cells (grownCap w (xs.length + 1) xs.length 9 - (xs.length + 1))) 9)) := by
    intro wd _
    cases a with
    | none =>
      have h0 : xs.length = 0 := by
        obtain ⟨a', c', e, _, hc⟩ := h
        rcases Nat.eq_zero_or_pos xs.length with h0 | h0
        · exact h0
        · obtain ⟨b, o, e2, _⟩ := hc 0 h0
          simp only [Value.slice.injEq] at e
          rw [← e.1] at e2
          cases e2
      obtain rfl : xs = [] := List.eq_nil_of_length_eq_zero h0
      have hr := run_append_grow_src (P := Tryd.prog) w 57 57 ty 9 i _ ht hi hz0 none 0 0 [] (run_firstCells_none w.drew i.size 0 0 0) x 1 [.string s] hs1 (by omega) (by omega) (growslice_fits (by omega) (by rw [hz2]; omega))
      simpa using hr
    | some ad =>
      have hcell : ∀ j u, (xs.map Value.string)[j]? = some u → w.cell? (ad.add j) = some u := by
        intro j u hu
        obtain ⟨a', c', e, _, hc⟩ := h
        simp only [Value.slice.injEq] at e
        have hj : j < xs.length := by
          have := (List.getElem?_eq_some_iff.1 hu).1
          simpa using this
        obtain ⟨b, o, e2, h2⟩ := hc j hj
        rw [← e.1] at e2
        obtain rfl : ad = ⟨b, o, none⟩ := Option.some.inj e2
        rw [Addr.add_mid, h2, ← hu, List.getElem?_map, List.getElem?_eq_getElem hj]
        rfl
      have hr := run_append_grow_src (P := Tryd.prog) w 57 57 ty 9 i _ ht hi hz0 (some ad) xs.length xs.length (xs.map Value.string) (run_firstCells_some w.drew i.size xs.length ad xs.length xs.length (xs.map Value.string) (by rw [hz1, Nat.mul_one, hn]) (fun j u hu => hcell j u hu)) x 1 [.string s] hs1 (by omega) (by omega) (growslice_fits (by omega) (by rw [hz2]; omega))
      exact hr
  refine ⟨_, _, key _ rfl, ⟨_, _, by rw [List.length_append]; rfl, ?_, fun j hj => ⟨_, _, rfl, ?_⟩⟩, ((Below.refl _ w).drew).alloc (Nat.le_refl _) _, _, rfl⟩
  · rw [List.length_append]
    exact grownCap_ge w (xs.length + 1) xs.length 9
  · rw [Nat.zero_add]
    unfold World.cell?
    rw [show (w.drew.alloc _).heap[w.heap.size]? = _ from heap_alloc_new w.drew _]
    have hj2 : j < (xs.map Value.string ++ [Value.string s]).length := by simpa using hj
    simp only [Option.isSome_none, Bool.false_eq_true, if_false]
    rw [Array.getElem?_append_left (by simpa using hj2)]
    rw [List.getElem?_toArray, show xs.map Value.string ++ [Value.string s] = (xs ++ [s]).map Value.string by simp, List.getElem?_map, List.getElem?_eq_getElem hj]
    rfl
end Go.Proofs.YtpnjlmpamincoaaDoor.Tm
