/-
  PROVED HERE: what is wrong first in a block of items, plain; memory where one map changes alone; the contract of the document's blockWrong. Conditions: as each theorem states.
-/
import Derived.Test.YtkopjmofdnlplaaGreatDoorTmY
import Derived.Test.YtkopjmofdnlplaaGreatDoorHld
namespace Go.Proofs.YtkopjmofdnlplaaGreatDoor.Tm
open Go.RowKit Go.Proofs.YtkopjmofdnlplaaGreatDoor.Lex Go.Proofs.YtkopjmofdnlplaaGreatDoor.Dig
/-! ### Plain -/
def putM (M : ByteArray → Bool) (s : ByteArray) : ByteArray → Bool := fun y => if y = s then true else M y
abbrev Ir := (Int × Int) × (ByteArray → Bool) × List ByteArray
def manyAt (l : List It) (a : Int) : Bool := match l[a.toNat]? with | some y => y.many | none => false
def ruleB (l : List It) (x : It) : Int := if x.rule = 3 then whichI l x.last else whichI l x.first
/-- What is wrong with the rule of the item i. -/
def ruleF (l : List It) (i : Nat) (x : It) : Int × Int :=
  if x.rule = 0 then good
  else if whichI l x.first < 0 ∨ ruleB l x < 0 then (7, (x.at_ : Int))
  else if (x.rule = 2 ∧ manyAt l (whichI l x.first) = false) ∨ (x.rule = 3 ∧ (x.width ≠ 4 ∨ x.signed = true)) then (13, (x.at_ : Int))
  else if ruleB l x < whichI l x.first then (10, (x.at_ : Int))
  else if whichI l x.first ≤ i ∧ (i : Int) ≤ ruleB l x then (6, (x.at_ : Int))
  else good
open Classical in
noncomputable def cycF (l : List It) (i : Nat) (x : It) : Int × Int := if x.rule = 3 ∧ Rch l i i then (11, (x.at_ : Int)) else good
/-- The first that is wrong. -/
def firstOf (f : Nat → It → Int × Int) : List It → Nat → Int × Int
  | [], _ => good
  | x :: r, i => if (f i x).1 ≠ 0 then f i x else firstOf f r (i + 1)
theorem firstOf_step {f : Nat → It → Int × Int} {l : List It} {k : Nat} (h : k < l.length) : firstOf f (l.drop k) k = if (f k l[k]).1 ≠ 0 then f k l[k] else firstOf f (l.drop (k + 1)) (k + 1) := by
  rw [List.drop_eq_getElem_cons h, firstOf]
theorem firstOf_end {f : Nat → It → Int × Int} {l : List It} {k : Nat} (h : ¬ k < l.length) : firstOf f (l.drop k) k = good := by
  rw [List.drop_eq_nil_iff.2 (by omega)]
  rfl
noncomputable def rulesF (l : List It) : Int × Int :=
  if (firstOf (ruleF l) l 0).1 ≠ 0 then firstOf (ruleF l) l 0 else firstOf (cycF l) l 0
/-- The end of an item, whose name (if it has one) is put, and whose names are looked for. -/
def tailF (k : Int) (n : ByteArray) (mn : Bool) (h : Int × Int) (M : ByteArray → Bool) (seen : List ByteArray) : Ir :=
  if h.1 ≠ 0 then (h, M, seen) else if k = 1 ∧ mn = false then (good, M, seen ++ [n]) else (good, M, seen)
mutual
noncomputable def itemF (T : ByteArray → Bool) : It → (ByteArray → Bool) → List ByteArray → Ir
  | .mk k a n t _ _ _ mn c _ _ _ its, M, seen =>
    if k = 4 then
      if (hasC seen (ctN c)).1 ≠ 0 then (hasC seen (ctN c), M, seen)
      else
        let r := itemsF T its M seen
        (if r.1.1 ≠ 0 then r.1 else rulesF its, r.2.1, seen)
    else if M n = true then ((9, (a : Int)), M, seen)
    else if k = 3 ∧ T t = false then ((7, (a : Int)), putM M n, seen)
    else tailF k n mn (hasC seen (ctN c)) (putM M n) seen
noncomputable def itemsF (T : ByteArray → Bool) : List It → (ByteArray → Bool) → List ByteArray → Ir
  | [], M, seen => (good, M, seen)
  | x :: r, M, seen => let q := itemF T x M seen; if q.1.1 ≠ 0 then q else itemsF T r q.2.1 q.2.2
end
noncomputable def blockF (T : ByteArray → Bool) (l : List It) (M : ByteArray → Bool) (seen : List ByteArray) : (Int × Int) × (ByteArray → Bool) :=
  let r := itemsF T l M seen; (if r.1.1 ≠ 0 then r.1 else rulesF l, r.2.1)
theorem itemF_when {T : ByteArray → Bool} {x : It} {M : ByteArray → Bool} {seen : List ByteArray} (h : x.kind = 4) : itemF T x M seen = if (hasC seen (ctN x.count)).1 ≠ 0 then (hasC seen (ctN x.count), M, seen) else ((blockF T x.items M seen).1, (blockF T x.items M seen).2, seen) := by
  cases x
  simp only [It.kind] at h
  subst h
  simp only [itemF, It.count, It.items, blockF, if_true]
  rfl
theorem itemF_other {T : ByteArray → Bool} {x : It} {M : ByteArray → Bool} {seen : List ByteArray} (h : x.kind ≠ 4) : itemF T x M seen = if M x.name = true then ((9, (x.at_ : Int)), M, seen) else if x.kind = 3 ∧ T x.type = false then ((7, (x.at_ : Int)), putM M x.name, seen) else tailF x.kind x.name x.many (hasC seen (ctN x.count)) (putM M x.name) seen := by
  cases x
  simp only [It.kind] at h
  simp only [itemF, It.kind, It.name, It.type, It.many, It.count, It.at_, if_neg h]
  rfl
theorem itemsF_step {T : ByteArray → Bool} {l : List It} {M : ByteArray → Bool} {seen : List ByteArray} {k : Nat} (h : k < l.length) : itemsF T (l.drop k) M seen = if (itemF T l[k] M seen).1.1 ≠ 0 then itemF T l[k] M seen else itemsF T (l.drop (k + 1)) (itemF T l[k] M seen).2.1 (itemF T l[k] M seen).2.2 := by
  rw [List.drop_eq_getElem_cons h, itemsF]
theorem itemsF_end {T : ByteArray → Bool} {l : List It} {M : ByteArray → Bool} {seen : List ByteArray} {k : Nat} (h : ¬ k < l.length) : itemsF T (l.drop k) M seen = (good, M, seen) := by
  rw [List.drop_eq_nil_iff.2 (by omega), itemsF]
theorem cl_drop {l : List It} {k : Nat} (h : k < l.length) : cl (l.drop k) = ci l[k] + cl (l.drop (k + 1)) := by
  rw [List.drop_eq_getElem_cons h, cl]
theorem ci_eq (x : It) : ci x = 1 + cl x.items := by cases x; simp only [ci, It.items]
theorem cl_len (l : List It) : l.length ≤ cl l := by
  induction l with
  | nil => simp [cl]
  | cons x r ih => simp only [cl, List.length_cons, ci_eq]; omega
/-! ### Memory -/
/-- What was a row of cells is so still. -/
def Ck (w w' : World) : Prop := ∀ (k : Nat) (cs : Array Value) (T : Nat) (z : Nat × Nat), w.heap[k]? = some (Obj.cells cs T z) → w'.heap[k]? = some (Obj.cells cs T z)
theorem Ck.cell {w w' : World} (h : Ck w w') {a : Addr} {v : Value} (hc : w.cell? a = some v) : w'.cell? a = some v := by
  unfold World.cell? at hc ⊢
  cases hb : w.heap[a.block]? with
  | none => rw [hb] at hc; simp at hc
  | some o =>
    cases o with
    | cells cs T z => rw [hb] at hc; rw [h _ _ _ _ hb]; exact hc
    | _ => rw [hb] at hc; simp at hc
theorem Ck.below {w w' : World} (hb : Below w.heap.size w w') : Ck w w' := fun k _ _ _ h => (hb.block k (Array.getElem?_eq_some_iff.1 h).1).trans h
theorem Ck.refl (w : World) : Ck w w := fun _ _ _ _ h => h
theorem Ck.trans {a b c : World} (h : Ck a b) (g : Ck b c) : Ck a c := fun k cs T z e => g k cs T z (h k cs T z e)
theorem Ck.grown {w w' : World} {m : Nat} {es : Array MapEntry} {c : Nat} (hm : w.heap[m]? = some (.map es c)) (hg : w.grownBy w' (some m)) : Ck w w' := fun k cs T z h => by
  refine (hg.block k (Array.getElem?_eq_some_iff.1 h).1 (fun e => ?_)).trans h
  injection e with e
  rw [e, hm] at h
  cases h
theorem exAt_ck {w w' : World} (hb : Ck w w') : ∀ (x : Ex) (v : Value), ExAt w x v → ExAt w' x v := by
  intro x
  induction x with
  | num k n => intro v h; unfold ExAt at h ⊢; obtain ⟨g, e, h⟩ := h; exact ⟨g, e, hb _ _ _ _ h⟩
  | nam k n => intro v h; unfold ExAt at h ⊢; obtain ⟨g, e, h⟩ := h; exact ⟨g, e, hb _ _ _ _ h⟩
  | bin k op l r ihl ihr => intro v h; unfold ExAt at h ⊢; obtain ⟨g, a, b, e, h, h1, h2⟩ := h; exact ⟨g, a, b, e, hb _ _ _ _ h, ihl a h1, ihr b h2⟩
theorem ctAt_ck {w w' : World} (hb : Ck w w') : ∀ (x : Option Ex) (v : Value), CtAt w x v → CtAt w' x v
  | none, _, h => h
  | some x, v, h => exAt_ck hb x v h
mutual
theorem itAt_ck {w w' : World} (hb : Ck w w') : (x : It) → (cv iv : Value) → ItAt w x cv iv → ItAt w' x cv iv
  | .mk _ _ _ _ _ _ _ _ ct _ _ _ items, cv, iv, h => by
    unfold ItAt at h ⊢
    obtain ⟨h1, a, cap, e, hl, hr⟩ := h
    exact ⟨ctAt_ck hb _ _ h1, a, cap, e, hl, rowAt_ck hb items a 0 hr⟩
theorem rowAt_ck {w w' : World} (hb : Ck w w') : (l : List It) → (a : Option Addr) → (j : Nat) → RowAt w l a j → RowAt w' l a j
  | [], _, _, _ => by unfold RowAt; trivial
  | x :: r, a, j, h => by
    unfold RowAt at h ⊢
    obtain ⟨⟨ad, cv, iv, e, hc, hi⟩, hr⟩ := h
    exact ⟨⟨ad, cv, iv, e, fun m v hm => hb.cell (hc m v hm), itAt_ck hb x cv iv hi⟩, rowAt_ck hb r a (j + 1) hr⟩
end
theorem ItsAt.ck {w w' : World} {v : Value} {l : List It} (h : ItsAt w v l) (hb : Ck w w') : ItsAt w' v l := by
  obtain ⟨a, cap, e, hl, hr⟩ := h
  exact ⟨a, cap, e, hl, rowAt_ck hb l a 0 hr⟩
theorem StrsAt.ck {w w' : World} {v : Value} {xs : List ByteArray} (h : StrsAt w v xs) (hb : Ck w w') : StrsAt w' v xs := by
  obtain ⟨a, cap, e, hc, h⟩ := h
  refine ⟨a, cap, e, hc, fun j hj => ?_⟩
  obtain ⟨b, o, e, hj⟩ := h j hj
  exact ⟨b, o, e, hb.cell hj⟩
theorem MS.block {w : World} {b n : Nat} {M : ByteArray → Bool} (h : MS w b n M) : ∃ es c, w.heap[b]? = some (.map es c) := by
  obtain ⟨D, ⟨es, c, h, _⟩, _⟩ := h
  exact ⟨es, c, h⟩
theorem MS.le {w : World} {b n n' : Nat} {M : ByteArray → Bool} (h : MS w b n M) (hn : n ≤ n') : MS w b n' M := by
  obtain ⟨D, ⟨es, c, h1, h2, h3, h4⟩, h5⟩ := h
  exact ⟨D, ⟨es, c, h1, h2, Nat.le_trans h3 hn, h4⟩, h5⟩
/-- The memory of a call of blockWrong: the map of names at mb, the box of what is seen, the box of what is returned. -/
structure BM (W : World) (mb n : Nat) (M : ByteArray → Bool) (sv : Value) (w : World) : Prop where
  gb : W.grownBy w (some mb)
  ms : MS w mb n M
  bx : w.heap[W.heap.size]? = some (.cells #[sv] 173)
  fl : w.heap[W.heap.size + 1]? = some (.cells #[.int .i64 0, .int .i64 0] 30)
  lt : mb < W.heap.size
theorem BM.below {W w w' : World} {mb n : Nat} {M : ByteArray → Bool} {sv : Value} (h : BM W mb n M sv w) (hb : Below w.heap.size w w') : BM W mb n M sv w' :=
  ⟨gb_trans h.gb (gb_below _ hb), h.ms.below hb, (hb.block _ (Array.getElem?_eq_some_iff.1 h.bx).1).trans h.bx, (hb.block _ (Array.getElem?_eq_some_iff.1 h.fl).1).trans h.fl, h.lt⟩
theorem BM.put {W w w' : World} {mb n n' : Nat} {M M' : ByteArray → Bool} {sv : Value} (h : BM W mb n M sv w) (hg : w.grownBy w' (some mb)) (hm : MS w' mb n' M') : BM W mb n' M' sv w' := by
  have hl := h.lt
  exact ⟨gb_trans h.gb hg, hm, (hg.block _ (Array.getElem?_eq_some_iff.1 h.bx).1 (fun e => by injection e; omega)).trans h.bx, (hg.block _ (Array.getElem?_eq_some_iff.1 h.fl).1 (fun e => by injection e; omega)).trans h.fl, hl⟩
theorem BM.seen {W w : World} {mb n : Nat} {M : ByteArray → Bool} {sv : Value} (h : BM W mb n M sv w) (v : Value) : BM W mb n M v (w.setCell ⟨W.heap.size, 0, none⟩ v) := by
  have hl := h.lt
  have hs : (w.setCell ⟨W.heap.size, 0, none⟩ v).heap.size = w.heap.size := by simp [World.setCell]
  have hg : w.grownBy (w.setCell ⟨W.heap.size, 0, none⟩ v) (some W.heap.size) := gb_set
  refine ⟨⟨h.gb.os, h.gb.tape, h.gb.output, by rw [hs]; exact h.gb.size, fun k hk hr => (Below.heap_setCell _ _ _ _ (show k ≠ W.heap.size by omega)).trans (h.gb.block k hk hr)⟩, h.ms.kept hg (fun e => by injection e; omega), ?_, (Below.heap_setCell _ _ _ _ (show W.heap.size + 1 ≠ W.heap.size by omega)).trans h.fl, hl⟩
  have := h.bx
  simp [World.setCell, Array.getElem?_modify, this]
theorem BM.drew {W w : World} {mb n : Nat} {M : ByteArray → Bool} {sv : Value} (h : BM W mb n M sv w) : BM W mb n M sv w.drew := h.below (Below.refl _ _).drew
theorem BM.box {W w : World} {mb n : Nat} {M : ByteArray → Bool} {sv : Value} (h : BM W mb n M sv w) : w.cell? ⟨W.heap.size, 0, none⟩ = some sv ∧ w.frozen? ⟨W.heap.size, 0, none⟩ = false := by
  unfold World.cell? World.frozen?
  rw [h.bx]
  exact ⟨rfl, rfl⟩
theorem BM.flt {W w : World} {mb n : Nat} {M : ByteArray → Bool} {sv : Value} (h : BM W mb n M sv w) : w.cell? ⟨W.heap.size + 1, 0, none⟩ = some (.int .i64 0) ∧ w.cell? ⟨W.heap.size + 1, 1, none⟩ = some (.int .i64 0) ∧ ∀ j, w.frozen? ⟨W.heap.size + 1, j, none⟩ = false := by
  refine ⟨by unfold World.cell?; rw [h.fl]; rfl, by unfold World.cell?; rw [h.fl]; rfl, fun j => ?_⟩
  unfold World.frozen?
  rw [h.fl]
  rfl
theorem BM.ck {W w : World} {mb n n0 : Nat} {M M0 : ByteArray → Bool} {sv : Value} (h : BM W mb n M sv w) (h0 : MS W mb n0 M0) : Ck W w := by
  obtain ⟨es, c, hm⟩ := h0.block
  exact Ck.grown hm h.gb
/-- append of one text to a slice without room. -/
theorem strs_grow {w : World} {a : Option Addr} {cap : Nat} {xs : List ByteArray} (h : StrsAt w (.slice a xs.length cap) xs) (hl : xs.length ≤ 1000000) (s : ByteArray) {x : Value} (hs : Src Tryz.prog 1 173 x 1 [Value.string s] w) (ty : Nat) :
    ∃ v' w', (Builtin.append_ #[173, 173] ty #[.slice a xs.length xs.length, x]).run Tryz.prog w = .ok v' w' ∧ StrsAt w' v' (xs ++ [s]) ∧ Below w.heap.size w w' ∧ ∃ c, v' = .slice (some ⟨w.heap.size, 0, none⟩) (xs.length + 1) c := by
  have hinfo : (Tryz.prog.info? 9).map (fun i => (i.zero, i.size, i.bytes)) = some (some (.string ⟨#[]⟩), 1, 16) := by kernel_rfl
  obtain ⟨i, hi, hz0, hz1, hz2⟩ := info_parts hinfo
  have ht : Tryz.prog.underlying 173 = some (.slice 9) := Tryz.underlying173
  have hs1 : Src Tryz.prog i.size 173 x 1 [.string s] w := by rw [hz1]; exact hs
  have hn : (xs.map Value.string).length = xs.length := List.length_map ..
  have hfc : ∃ ys, ys = xs.map Value.string ∧ ∀ r : Nat, r = i.size → True := ⟨_, rfl, fun _ _ => trivial⟩
  have key : ∀ (wd : World), wd = w.drew → (Builtin.append_ #[173, 173] ty #[.slice a xs.length xs.length, x]).run Tryz.prog w = .ok (.slice (some ⟨w.heap.size, 0, none⟩) (xs.length + 1) (grownCap w (xs.length + 1) xs.length 9)) (w.drew.alloc (.cells ((xs.map Value.string ++ [Value.string s]).toArray ++ Builtin.zeroCells (Value.string ⟨#[]⟩).cells (grownCap w (xs.length + 1) xs.length 9 - (xs.length + 1))) 9)) := by
    intro wd _
    cases a with
    | none =>
      have h0 : xs.length = 0 := by
        obtain ⟨a', c', e, _, hc⟩ := h
        rcases Nat.eq_zero_or_pos xs.length with h0 | h0
        · exact h0
        · obtain ⟨b, o, e2, _⟩ := hc 0 h0
          simp only [Value.slice.injEq] at e
          rw [← e.1] at e2
          cases e2
      obtain rfl : xs = [] := List.eq_nil_of_length_eq_zero h0
      have hr := run_append_grow_src (P := Tryz.prog) w 173 173 ty 9 i _ ht hi hz0 none 0 0 [] (run_firstCells_none w.drew i.size 0 0 0) x 1 [.string s] hs1 (by omega) (by omega) (growslice_fits (by omega) (by rw [hz2]; omega))
      simpa using hr
    | some ad =>
      have hcell : ∀ j u, (xs.map Value.string)[j]? = some u → w.cell? (ad.add j) = some u := by
        intro j u hu
        obtain ⟨a', c', e, _, hc⟩ := h
        simp only [Value.slice.injEq] at e
        have hj : j < xs.length := by
          have := (List.getElem?_eq_some_iff.1 hu).1
          simpa using this
        obtain ⟨b, o, e2, h2⟩ := hc j hj
        rw [← e.1] at e2
        obtain rfl : ad = ⟨b, o, none⟩ := Option.some.inj e2
        rw [Addr.add_mid, h2, ← hu, List.getElem?_map, List.getElem?_eq_getElem hj]
        rfl
      have hr := run_append_grow_src (P := Tryz.prog) w 173 173 ty 9 i _ ht hi hz0 (some ad) xs.length xs.length (xs.map Value.string) (run_firstCells_some w.drew i.size xs.length ad xs.length xs.length (xs.map Value.string) (by rw [hz1, Nat.mul_one, hn]) (fun j u hu => hcell j u hu)) x 1 [.string s] hs1 (by omega) (by omega) (growslice_fits (by omega) (by rw [hz2]; omega))
      exact hr
  refine ⟨_, _, key _ rfl, ⟨_, _, by rw [List.length_append]; rfl, ?_, fun j hj => ⟨_, _, rfl, ?_⟩⟩, ((Below.refl _ w).drew).alloc (Nat.le_refl _) _, _, rfl⟩
  · rw [List.length_append]
    exact grownCap_ge w (xs.length + 1) xs.length 9
  · rw [Nat.zero_add]
    unfold World.cell?
    rw [show (w.drew.alloc _).heap[w.heap.size]? = _ from heap_alloc_new w.drew _]
    have hj2 : j < (xs.map Value.string ++ [Value.string s]).length := by simpa using hj
    simp only [Option.isSome_none, Bool.false_eq_true, if_false]
    rw [Array.getElem?_append_left (by simpa using hj2)]
    rw [List.getElem?_toArray, show xs.map Value.string ++ [Value.string s] = (xs ++ [s]).map Value.string by simp, List.getElem?_map, List.getElem?_eq_getElem hj]
    rfl
end Go.Proofs.YtkopjmofdnlplaaGreatDoor.Tm
namespace Go.Proofs.YtkopjmofdnlplaaGreatDoor.Tm
open Go.RowKit Go.Proofs.YtkopjmofdnlplaaGreatDoor.Lex Go.Proofs.YtkopjmofdnlplaaGreatDoor.Dig
def BwP (W : World) (mb mn : Nat) (T M : ByteArray → Bool) (seen : List ByteArray) (l : List It) (e : Ending) (w' : World) : Prop := ∃ n', e = .returned (flV (blockF T l M seen).1) ∧ W.grownBy w' (some mb) ∧ MS w' mb n' (blockF T l M seen).2 ∧ n' ≤ mn + cl l
def BlkC (N : Nat) : Prop := ∀ (l : List It) (v sv : Value) (T M : ByteArray → Bool) (tb mb tn mn : Nat) (seen : List ByteArray) (W : World), cl l < N → ItsAt W v l → WfL l → l.length ≤ 16 → MS W tb tn T → MS W mb mn M → tb ≠ mb → StrsAt W sv seen → mn + cl l ≤ 1000000 → seen.length + cl l ≤ 1000000 →
  Calls Tryz.prog 70 #[v, .map (some tb), .map (some mb), sv] W (BwP W mb mn T M seen l)
theorem bw_results (tmps : Array Value) (w : World) (g : Nat) (v0 v1 : Value) (h3 : tmps.getD 8 undef = .pointer (some ⟨g, 0, none⟩)) (c0 : w.cell? ⟨g, 0, none⟩ = some v0) (c1 : w.cell? ⟨g, 1, none⟩ = some v1) :
    (results Tryz.f70 tmps).run Tryz.prog w = .ok (.agg #[v0, v1]) w := by
  have h3' : tmps[8]?.getD undef = .pointer (some ⟨g, 0, none⟩) := by simpa using h3
  simp only [results, Tryz.f70]
  simp [go_sem, h3', c0, c1]
theorem gb_set_new' {W w : World} {m X j : Nat} {v : Value} (h : W.grownBy w (some m)) (hX : W.heap.size ≤ X) : W.grownBy (w.setCell ⟨X, j, none⟩ v) (some m) :=
  ⟨h.os, h.tape, h.output, by rw [show (w.setCell ⟨X, j, none⟩ v).heap.size = w.heap.size by simp [World.setCell]]; exact h.size, fun k hk hr => (Below.heap_setCell _ _ _ _ (show k ≠ X by omega)).trans (h.block k hk hr)⟩
theorem cl_drop_le (l : List It) : ∀ k, cl (l.drop k) ≤ cl l := by
  induction l with
  | nil => intro k; rw [List.drop_nil]; exact Nat.le_refl _
  | cons x r ih =>
    intro k
    cases k with
    | zero => exact Nat.le_refl _
    | succ k => rw [List.drop_succ_cons, cl]; have := ih k; omega
/-- A store into the box of a slice does not hurt the texts that it shows. -/
theorem StrsAt.set_other {w : World} {v : Value} {xs : List ByteArray} {g n c : Nat} {sa : Option Addr} (h : StrsAt w v xs) (hg : w.heap[g]? = some (.cells #[.slice sa n c] 173)) (u : Value) : StrsAt (w.setCell ⟨g, 0, none⟩ u) v xs := by
  obtain ⟨a, cap, e, hc, h⟩ := h
  refine ⟨a, cap, e, hc, fun j hj => ?_⟩
  obtain ⟨b, o, e, hj⟩ := h j hj
  refine ⟨b, o, e, ?_⟩
  rw [World.cell?_setCell_other _ _ _ _ (fun e2 => ?_)]
  · exact hj
  · injection e2 with e3 e4
    unfold World.cell? at hj
    rw [← e3, hg] at hj
    simp only at hj
    rw [← e4] at hj
    simp at hj
theorem strs_step {w : World} {ops : Array Oper} {o : Oper} {a : Act} {K : Act → World → Prop} {Q : Exit → Act → World → Prop} {F : Prop} (hgd : o.guard = none) (s x : Operand)
    (ho : o.op = .call { callee := .builtin .append, args := #[s, x], argTypes := #[173, 173] })
    (xs : List ByteArray) (av : Option Addr) (cap : Nat) (hs : a.eval s = .slice av xs.length xs.length) (hv : StrsAt w (.slice av xs.length cap) xs) (hl : xs.length ≤ 1000000) (t : ByteArray)
    (y : Value) (hx : a.eval x = y) (hsrc : Src Tryz.prog 1 173 y 1 [Value.string t] w)
    (h : ∀ c w', StrsAt w' (.slice (some ⟨w.heap.size, 0, none⟩) (xs.length + 1) c) (xs ++ [t]) → Below w.heap.size w w' → K (a.put o.dst (.slice (some ⟨w.heap.size, 0, none⟩) (xs.length + 1) c)) w') :
    if Region.wanted o (yielded ops a.tmps) = true then Oper.wp Tryz.prog o a w K Q else F := by
  have hw : Region.wanted o (yielded ops a.tmps) = true := by simp [Region.wanted, hgd]
  rw [if_pos hw]
  obtain ⟨v', w', hr, h2, h3, c, rfl⟩ := strs_grow hv hl t hsrc o.type
  unfold Oper.wp execOp
  simp only [ho, resolve, invoke, builtin, Sem.run_bind, Sem.run_pure, Result.andThen_ok, List.map_toArray, List.map_cons, List.map_nil, hs, hx, hr]
  exact h c w' h2 h3
theorem BM.next {W w w' : World} {mb n : Nat} {M : ByteArray → Bool} {sv : Value} (h : BM W mb n M sv w) (hg : w.grownBy w' (some mb)) : Ck w w' := by
  obtain ⟨es, c, hm⟩ := h.ms.block
  exact Ck.grown hm hg
theorem bw_ret {W w : World} {mb mn n : Nat} {T M M1 : ByteArray → Bool} {seen : List ByteArray} {l : List It} {sv : Value} {f : Int × Int} (h : BM W mb n M1 sv w) (hb : blockF T l M seen = (f, M1)) (hn : n ≤ mn + cl l) (a b : Value) :
    BwP W mb mn T M seen l (.returned (flV f)) ((w.setCell ⟨W.heap.size + 1, 0, none⟩ a).setCell ⟨W.heap.size + 1, 1, none⟩ b) := by
  have hl := h.lt
  have hs : ∀ (w : World) (j : Nat) (v : Value), w.grownBy (w.setCell ⟨W.heap.size + 1, j, none⟩ v) (some (W.heap.size + 1)) := fun w j v => gb_set
  have hne : some mb ≠ some (W.heap.size + 1) := fun e => by injection e; omega
  refine ⟨n, by rw [hb], gb_set_new' (gb_set_new' h.gb (Nat.le_succ _)) (Nat.le_succ _), ?_, hn⟩
  rw [hb]
  exact (h.ms.kept (hs _ _ _) hne).kept (hs _ _ _) hne
theorem bw_fail {T M M' M1 : ByteArray → Bool} {seen seen' s1 : List ByteArray} {l : List It} {x : It} {f : Int × Int} {R : Ir} (h : itemsF T l M seen = if (itemF T x M' seen').1.1 ≠ 0 then itemF T x M' seen' else R) (e : itemF T x M' seen' = (f, M1, s1)) (hf : f.1 ≠ 0) : blockF T l M seen = (f, M1) := by
  rw [e, if_pos hf] at h
  unfold blockF
  rw [h]
  simp only [if_pos hf]
theorem bw_next {T M M' M1 : ByteArray → Bool} {seen seen' s1 : List ByteArray} {l : List It} {x : It} {f : Int × Int} {k : Nat} (h : itemsF T l M seen = if (itemF T x M' seen').1.1 ≠ 0 then itemF T x M' seen' else itemsF T (l.drop (k + 1)) (itemF T x M' seen').2.1 (itemF T x M' seen').2.2) (e : itemF T x M' seen' = (f, M1, s1)) (hf : f.1 = 0) : itemsF T l M seen = itemsF T (l.drop (k + 1)) M1 s1 := by
  rw [e] at h
  simp only [hf, ne_eq, not_true_eq_false, if_false] at h
  exact h
theorem bw_bad {T M M' : ByteArray → Bool} {seen : List ByteArray} {l : List It} {x : It} {f R : Int × Int} {k : Nat} (hb : blockF T l M seen = (rulesF l, M')) (h : firstOf (ruleF l) l 0 = if (ruleF l k x).1 ≠ 0 then ruleF l k x else R) (e : ruleF l k x = f) (hf : f.1 ≠ 0) : blockF T l M seen = (f, M') := by
  rw [hb]
  rw [e, if_pos hf] at h
  unfold rulesF
  rw [h, if_pos hf]
def B1R (W : World) (mb mn : Nat) (T M : ByteArray → Bool) (seen : List ByteArray) (l : List It) (i : Value) (wr : World) : Prop := ∃ (k n : Nat) (M' : ByteArray → Bool) (seen' : List ByteArray) (sv : Value), i = .int .i64 k ∧ k ≤ l.length ∧ Hid (BM W mb n M' sv wr) ∧ Hid (StrsAt wr sv seen') ∧ n + cl (l.drop k) ≤ mn + cl l ∧ seen'.length + cl (l.drop k) ≤ seen.length + cl l ∧ Hid (itemsF T l M seen = itemsF T (l.drop k) M' seen')
def B2R (W : World) (mb n : Nat) (M : ByteArray → Bool) (l : List It) (i : Value) (wr : World) : Prop := ∃ (k : Nat) (sv : Value), i = .int .i64 k ∧ k ≤ l.length ∧ Hid (BM W mb n M sv wr) ∧ Hid (firstOf (ruleF l) l 0 = firstOf (ruleF l) (l.drop k) k)
def B3R (W : World) (mb n : Nat) (M : ByteArray → Bool) (l : List It) (i : Value) (wr : World) : Prop := ∃ (k : Nat) (sv : Value), i = .int .i64 k ∧ k ≤ l.length ∧ Hid (BM W mb n M sv wr) ∧ Hid (firstOf (cycF l) l 0 = firstOf (cycF l) (l.drop k) k)
section
variable {W : World}
set_option maxRecDepth 100000 in
set_option maxHeartbeats 4000000 in
theorem block_step (N : Nat) (IH : BlkC N) : BlkC (N + 1) := by
  intro l v sv T M tb mb tn mn seen W hN h hwf hl hT hM hne hs hmn hsn
  obtain ⟨a, cap, rfl, hcap, hr⟩ := id h
  have HI := Lib.hid h
  have HT := Lib.hid hT
  have HM := Lib.hid hM
  have HS := Lib.hid hs
  have HW := Lib.hid (wfL_mem hwf)
  have HJ := Lib.hid IH
  have hmb := hM.lt
  have hlen := cl_len l
  obtain ⟨sa, sc, rfl, hsc, _⟩ := id hs
  clear h hr IH hwf hT hM hs
  go_enter Tryz.func70, Tryz.ntmps70
  go_upto_region 1 with fail
  have m0 := Lib.hid (show BM W mb mn M (.slice sa seen.length sc) ((W.alloc (.cells #[.slice sa seen.length sc] 173)).alloc (.cells #[.int .i64 0, .int .i64 0] 30)) from ⟨gb_below _ (((Below.refl _ _).alloc (Nat.le_refl _) _).alloc (by simp) _), HM.out.below (((Below.refl _ _).alloc (Nat.le_refl _) _).alloc (by simp) _), (heap_alloc_old _ _ (by simp)).trans (heap_alloc_new _ _), heap_alloc_at _ _ (by simp), hmb⟩)
  have s0 := Lib.hid (HS.out.below (((Below.refl W.heap.size W).alloc (Nat.le_refl _) (.cells #[.slice sa seen.length sc] 173)).alloc (by simp) (.cells #[.int .i64 0, .int .i64 0] 30)))
  generalize ((W.alloc (.cells #[.slice sa seen.length sc] 173)).alloc (.cells #[.int .i64 0, .int .i64 0] 30)) = w0 at *
  go_wp2_with fail
  go_loopw [23] (fun i wr => B1R W mb mn T M seen l i wr) (fun i _ => l.length - (intOf i).toNat)
  case atStart => exact ⟨0, mn, M, seen, _, rfl, Nat.zero_le _, m0, s0, Nat.le_refl _, Nat.le_refl _, Lib.hid rfl⟩
  case round =>
    clear m0 s0
    obtain ⟨k, n, M', seen', sv, rfl, hk, hB, hS, hn, hq, hF⟩ := hrel
    obtain ⟨sa', sc', rfl, hsc', _⟩ := id hS.out
    have hck := Lib.hid (hB.out.ck HM.out)
    by_cases hlt : k < l.length
    · have hI1 := Lib.hid (HI.out.ck hck.out)
      obtain ⟨b, o, cv, iv, rfl, hc, hit⟩ := its_at hI1.out k hlt
      obtain ⟨⟨p8, rfl⟩, a12, c12, rfl⟩ := it_forms hit
      have i1 : (0 : Int) ≤ (k : Int) := by omega
      have i2 : (k : Int) < (l.length : Int) := by omega
      have hst := Lib.hid (hF.out.trans (itemsF_step hlt))
      have hcd := cl_drop hlt
      have hwf := Lib.hid (HW.out l[k] (List.getElem_mem hlt))
      have HIt := Lib.hid hit
      rw [ci_eq] at hcd
      have hcl := cl_drop_le l k
      clear hF hit hI1
      generalize l[k] = x at *
      have z0 : wr.cell? ⟨b, o + k * 13, none⟩ = some (.int .i64 x.kind) := hc 0 _ rfl
      have z1 : wr.cell? ⟨b, o + k * 13 + 1, none⟩ = some (.int .i64 (x.at_ : Nat)) := hc 1 _ rfl
      have z2 : wr.cell? ⟨b, o + k * 13 + 2, none⟩ = some (.string x.name) := hc 2 _ rfl
      have z3 : wr.cell? ⟨b, o + k * 13 + 3, none⟩ = some (.string x.type) := hc 3 _ rfl
      have z4 : wr.cell? ⟨b, o + k * 13 + 4, none⟩ = some (.int .i64 x.width) := hc 4 _ rfl
      have z5 : wr.cell? ⟨b, o + k * 13 + 5, none⟩ = some (.int .i64 x.order) := hc 5 _ rfl
      have z6 : wr.cell? ⟨b, o + k * 13 + 6, none⟩ = some (.bool x.signed) := hc 6 _ rfl
      have z7 : wr.cell? ⟨b, o + k * 13 + 7, none⟩ = some (.bool x.many) := hc 7 _ rfl
      have z8 : wr.cell? ⟨b, o + k * 13 + 8, none⟩ = some (.pointer p8) := hc 8 _ rfl
      have z9 : wr.cell? ⟨b, o + k * 13 + 9, none⟩ = some (.int .i64 x.rule) := hc 9 _ rfl
      have z10 : wr.cell? ⟨b, o + k * 13 + 10, none⟩ = some (.string x.first) := hc 10 _ rfl
      have z11 : wr.cell? ⟨b, o + k * 13 + 11, none⟩ = some (.string x.last) := hc 11 _ rfl
      have z12 : wr.cell? ⟨b, o + k * 13 + 12, none⟩ = some (.slice a12 x.items.length c12) := hc 12 _ rfl
      clear hc
      go_upto_region 5 with fail
      have HX := Lib.hid (show IB (wr.alloc (.cells #[.int .i64 x.kind, .int .i64 (x.at_ : Nat), .string x.name, .string x.type, .int .i64 x.width, .int .i64 x.order, .bool x.signed, .bool x.many, .pointer p8, .int .i64 x.rule, .string x.first, .string x.last, .slice a12 x.items.length c12] 78)) wr.heap.size (itVals x (.pointer p8) (.slice a12 x.items.length c12)) from heap_alloc_new _ _)
      have hbw := Lib.hid (show Below wr.heap.size wr (wr.alloc (.cells #[.int .i64 x.kind, .int .i64 (x.at_ : Nat), .string x.name, .string x.type, .int .i64 x.width, .int .i64 x.order, .bool x.signed, .bool x.many, .pointer p8, .int .i64 x.rule, .string x.first, .string x.last, .slice a12 x.items.length c12] 78)) from (Below.refl _ _).alloc (Nat.le_refl _) _)
      generalize wr.alloc (.cells #[.int .i64 x.kind, .int .i64 (x.at_ : Nat), .string x.name, .string x.type, .int .i64 x.width, .int .i64 x.order, .bool x.signed, .bool x.many, .pointer p8, .int .i64 x.rule, .string x.first, .string x.last, .slice a12 x.items.length c12] 78) = w1 at *
      have B1 := Lib.hid (hB.out.below hbw.out)
      have S1 := Lib.hid (hS.out.below hbw.out)
      have I1 := Lib.hid (itAt_ck (Ck.below hbw.out) _ _ _ HIt.out)
      have hwr2 := World.block_lt_of_cell? wr _ hB.out.flt.1
      have hX1 := HX.out.lt
      obtain ⟨X, hXe⟩ : ∃ X, wr.heap.size = X := ⟨_, rfl⟩
      rw [hXe] at HX hX1 ⊢
      have hXW : W.heap.size + 1 < X := by rw [← hXe]; exact hwr2
      clear z0 z1 z2 z3 z4 z5 z6 z7 z8 z9 z10 z11 z12 hB hS HIt hbw hwr2 hck
      clear hXe
      have y0 : w1.cell? ⟨X, 0, none⟩ = some (.int .i64 x.kind) := HX.out.cell 0
      go_upto_if 29 with fail
      go_cut [] (fun wx => ∃ (n1 : Nat) (M1 : ByteArray → Bool), Hid (BM W mb n1 M1 (.slice sa' seen'.length sc') wx) ∧ Hid (Ck w1 wx) ∧ w1.heap.size ≤ wx.heap.size ∧ (x.kind = 4 → n1 = n ∧ M1 = M') ∧ n1 ≤ n + 1 ∧ Hid (x.kind ≠ 4 → itemF T x M' seen' = tailF x.kind x.name x.many (hasC seen' (ctN x.count)) M1 seen'))
      case first =>
        obtain ⟨kd, hkd⟩ : ∃ kd, x.kind = kd := ⟨_, rfl⟩
        rw [hkd] at y0 ⊢
        by_cases hk4 : kd = 4
        · subst hk4
          go_wp2_with fail
          go_meet
          exact ⟨n, M', B1, Lib.hid (Ck.refl _), Nat.le_refl _, fun _ => ⟨rfl, rfl⟩, Nat.le_succ _, Lib.hid (fun h => absurd hkd h)⟩
        · have e4 : (kd != 4) = true := by simpa using hk4
          have HK := Lib.hid (show itemF T x M' seen' = _ from itemF_other (by rw [hkd]; exact hk4))
          rw [hkd] at HK
          have hnm := ((wfI_iff x).1 hwf.out).1.names
          have y1 : w1.cell? ⟨X, 1, none⟩ = some (.int .i64 (x.at_ : Nat)) := HX.out.cell 1
          have y2 : w1.cell? ⟨X, 2, none⟩ = some (.string x.name) := HX.out.cell 2
          have get := B1.out.ms.get x.name hnm.1
          obtain ⟨bm, hbm⟩ : ∃ q, M' x.name = q := ⟨_, rfl⟩
          rw [hbm] at get HK
          cases bm with
          | true =>
            have hR := Lib.hid (bw_fail hst.out (HK.out.trans (if_pos rfl)) (show (9 : Int) ≠ 0 by decide))
            obtain ⟨r0, r1, g0⟩ := B1.out.flt
            clear hk4 hbm
            go_wp2_with fail
            refine bodyPost_ret (bw_results _ _ (W.heap.size + 1) (.int .i64 9) (.int .i64 (x.at_ : Nat)) rfl (by go_simp) (by go_simp)) rfl ?_
            exact bw_ret B1.out hR.out (by omega) _ _
          | false =>
            have HK := Lib.hid (HK.out.trans (if_neg (by decide)))
            obtain ⟨w2, e2, hM2, hg2⟩ := B1.out.ms.put (by omega) x.name hnm.1
            have B2 := Lib.hid (B1.out.put hg2 hM2)
            have C2 := Lib.hid (B1.out.next hg2)
            have s2 := hg2.size
            have v0 := C2.out.cell y0
            have v1 := C2.out.cell y1
            have v3 : w2.cell? ⟨X, 3, none⟩ = some (.string x.type) := C2.out.cell (HX.out.cell 3)
            have getT := (HT.out.kept B2.out.gb (fun e => hne (by injection e))).get x.type hnm.2.1
            obtain ⟨r0, r1, g0⟩ := B2.out.flt
            clear hM2 hg2 hbm
            by_cases hk3 : kd = 3
            · obtain ⟨bt, hbt⟩ : ∃ q, T x.type = q := ⟨_, rfl⟩
              rw [hbt] at getT HK
              subst hk3
              cases bt with
              | false =>
                have hR := Lib.hid (bw_fail hst.out (HK.out.trans (if_pos ⟨rfl, rfl⟩)) (show (7 : Int) ≠ 0 by decide))
                clear hk4
                go_wp2_with fail
                refine bodyPost_ret (bw_results _ _ (W.heap.size + 1) (.int .i64 7) (.int .i64 (x.at_ : Nat)) rfl (by go_simp) (by go_simp)) rfl ?_
                exact bw_ret B2.out hR.out (by omega) _ _
              | true =>
                have HK := Lib.hid (HK.out.trans (if_neg (fun h => by cases h.2)))
                clear hk4
                go_wp2_with fail
                go_meet
                exact ⟨n + 1, _, B2, C2, s2, fun h => absurd (hkd.symm.trans h) (by decide), Nat.le_refl _, Lib.hid (fun _ => by rw [hkd]; exact HK.out)⟩
            · have e3 : (kd == 3) = false := by simpa using hk3
              have HK := Lib.hid (HK.out.trans (if_neg (fun h => hk3 h.1)))
              clear getT
              go_wp2_with fail
              go_meet
              exact ⟨n + 1, _, B2, C2, s2, fun h => absurd (hkd.symm.trans h) hk4, Nat.le_refl _, Lib.hid (fun _ => by rw [hkd]; exact HK.out)⟩
      case rest =>
        clear B1 y0
        obtain ⟨n1, M1, hB1, hC1, hs1, hk1, hn1, hF1⟩ := hcut
        have u8 : wc.cell? ⟨X, 8, none⟩ = some (.pointer p8) := hC1.out.cell (HX.out.cell 8)
        have S2 := Lib.hid (S1.out.ck hC1.out)
        have I2 := itAt_ck hC1.out _ _ _ I1.out
        have hw1 := ((wfI_iff x).1 hwf.out).1
        have HC := Lib.hid (has_any (W := wc) seen' _ x.count (.pointer p8) W.heap.size ((itAt_iff _ _ _ _).1 I2).1 hw1.sz hB1.out.box.1 S2.out (by omega))
        have J2 := Lib.hid ((itAt_iff _ _ _ _).1 I2).2
        have HS2 := Lib.hid hw1
        clear S1 I1 I2 hw1
        obtain ⟨⟨f1, f2⟩, hf⟩ : ∃ f, hasC seen' (ctN x.count) = f := ⟨_, rfl⟩
        rw [hf] at HC hF1
        have HF := Lib.hid hf
        clear hf
        go_wp2_with fail
        refine (HC.out).mono ?_; rintro e w3 ⟨rfl, hb⟩
        have B3 := Lib.hid (hB1.out.below hb)
        have C3 := Lib.hid (hC1.out.trans (Ck.below hb))
        have S3 := Lib.hid (S2.out.below hb)
        have J3 := Lib.hid (J2.out.below hb)
        have s3 := hb.size
        have hflv : flV (f1, f2) = .agg #[.int .i64 f1, .int .i64 f2] := rfl
        rw [hflv]
        clear hB1 hC1 S2 J2 hb HC hflv u8
        go_wp2_with fail
        have hbA := Lib.hid (show Below w3.heap.size w3 (w3.alloc (.cells #[.int .i64 f1, .int .i64 f2] 30)) from (Below.refl _ _).alloc (Nat.le_refl _) _)
        have hfA : (w3.alloc (.cells #[.int .i64 f1, .int .i64 f2] 30)).heap[w3.heap.size]? = some (.cells #[.int .i64 f1, .int .i64 f2] 30) := heap_alloc_new _ _
        generalize w3.alloc (.cells #[.int .i64 f1, .int .i64 f2] 30) = wf at *
        refine (is_any f1 f2 _).mono ?_; rintro e w4 ⟨rfl, hb⟩
        have hbB := Lib.hid (hbA.out.trans (hb.mono hbA.out.size))
        have hfB := (hb.block _ (Array.getElem?_eq_some_iff.1 hfA).1).trans hfA
        have u0 : w4.cell? ⟨w3.heap.size, 0, none⟩ = some (.int .i64 f1) := by unfold World.cell?; rw [hfB]; rfl
        have u1 : w4.cell? ⟨w3.heap.size, 1, none⟩ = some (.int .i64 f2) := by unfold World.cell?; rw [hfB]; rfl
        have B4 := Lib.hid (B3.out.below hbB.out)
        have C4 := Lib.hid (C3.out.trans (Ck.below hbB.out))
        have S4 := Lib.hid (S3.out.below hbB.out)
        have J4 := Lib.hid (J3.out.below hbB.out)
        have s4 := hbB.out.size
        obtain ⟨F, hFe⟩ : ∃ F, w3.heap.size = F := ⟨_, rfl⟩
        rw [hFe] at u0 u1 s4 ⊢
        clear hb hbA hfA hbB hfB B3 C3 S3 J3 hFe
        obtain ⟨r0, r1, g0⟩ := B4.out.flt
        have v0 : w4.cell? ⟨X, 0, none⟩ = some (.int .i64 x.kind) := C4.out.cell (HX.out.cell 0)
        by_cases hf0 : f1 = 0
        · subst hf0
          have e0 : ((0 : Int) == 0) = true := rfl
          rw [e0]
          by_cases hk4 : x.kind = 4
          · have v12 : w4.cell? ⟨X, 12, none⟩ = some (.slice a12 x.items.length c12) := C4.out.cell (HX.out.cell 12)
            obtain ⟨hv8, hf8⟩ := B4.out.box
            obtain ⟨hk1a, hk1b⟩ := hk1 hk4
            have HP := Lib.hid (HJ.out x.items _ (.slice sa' seen'.length sc') T M1 tb mb tn n1 seen' w4 (by omega) J4.out ((wfI_iff x).1 hwf.out).2 HS2.out.few (HT.out.kept B4.out.gb (fun e => hne (by injection e))) B4.out.ms hne S4.out (by omega) (by omega))
            have HW4 := Lib.hid (show itemF T x M' seen' = ((blockF T x.items M1 seen').1, (blockF T x.items M1 seen').2, seen') by rw [itemF_when hk4, HF.out, if_neg (fun h => h rfl), hk1b])
            rw [hk4] at v0
            clear hF1 HF
            go_wp2_with fail
            refine (HP.out).mono ?_; rintro e w5 ⟨n5, rfl, hg5, hM5, hn5⟩
            obtain ⟨⟨⟨g1, g2⟩, M5⟩, hbl⟩ : ∃ f, blockF T x.items M1 seen' = f := ⟨_, rfl⟩
            rw [hbl] at hM5 HW4 ⊢
            simp only at hM5 HW4 ⊢
            have B5 := Lib.hid (B4.out.put hg5 hM5)
            have C45 := B4.out.next hg5
            have C5 := Lib.hid (C4.out.trans C45)
            have S5 := Lib.hid (S4.out.ck C45)
            have hflv : flV (g1, g2) = .agg #[.int .i64 g1, .int .i64 g2] := rfl
            rw [hflv]
            clear B4 C4 S4 J4 HP hg5 hM5 C45 hbl hflv r0 r1 g0 u0 u1 v0 v12 hv8 hf8
            go_wp2_with fail
            have hbA := Lib.hid (show Below w5.heap.size w5 (w5.alloc (.cells #[.int .i64 g1, .int .i64 g2] 30)) from (Below.refl _ _).alloc (Nat.le_refl _) _)
            have hfA : (w5.alloc (.cells #[.int .i64 g1, .int .i64 g2] 30)).heap[w5.heap.size]? = some (.cells #[.int .i64 g1, .int .i64 g2] 30) := heap_alloc_new _ _
            generalize w5.alloc (.cells #[.int .i64 g1, .int .i64 g2] 30) = wg at *
            refine (is_any g1 g2 _).mono ?_; rintro e w6 ⟨rfl, hb⟩
            have hbB := Lib.hid (hbA.out.trans (hb.mono hbA.out.size))
            have hfB := (hb.block _ (Array.getElem?_eq_some_iff.1 hfA).1).trans hfA
            have u0 : w6.cell? ⟨w5.heap.size, 0, none⟩ = some (.int .i64 g1) := by unfold World.cell?; rw [hfB]; rfl
            have u1 : w6.cell? ⟨w5.heap.size, 1, none⟩ = some (.int .i64 g2) := by unfold World.cell?; rw [hfB]; rfl
            have B6 := Lib.hid (B5.out.below hbB.out)
            have C6 := Lib.hid (C5.out.trans (Ck.below hbB.out))
            have S6 := Lib.hid (S5.out.below hbB.out)
            obtain ⟨F, hFe⟩ : ∃ F, w5.heap.size = F := ⟨_, rfl⟩
            rw [hFe] at u0 u1 ⊢
            clear hb hbA hfA hbB hfB B5 C5 S5 hFe
            obtain ⟨r0, r1, g0⟩ := B6.out.flt
            by_cases hg0 : g1 = 0
            · subst hg0
              have e0 : ((0 : Int) == 0) = true := rfl
              rw [e0]
              have v0 : w6.cell? ⟨X, 0, none⟩ = some (.int .i64 x.kind) := C6.out.cell (HX.out.cell 0)
              rw [hk4] at v0
              have HR := Lib.hid (bw_next hst.out HW4.out rfl)
              clear HW4 hst
              go_wp2_with fail
              go_roundw
              case rel => exact ⟨k + 1, n5, M5, seen', _, by go_num, hlt, B6, S6, by omega, by omega, HR⟩
              case measure => first | (simp [intOf]; done) | (simp [intOf]; omega)
            · have e0 : (g1 == 0) = false := by simpa using hg0
              rw [e0]
              have hR := Lib.hid (bw_fail hst.out HW4.out hg0)
              clear hg0 e0 HW4 hst
              go_wp2_with fail
              refine bodyPost_ret (bw_results _ _ (W.heap.size + 1) (.int .i64 g1) (.int .i64 g2) rfl (by go_simp) (by go_simp)) rfl ?_
              exact bw_ret B6.out hR.out (by omega) _ _
          · have HE := Lib.hid (hF1.out hk4)
            have v7 : w4.cell? ⟨X, 7, none⟩ = some (.bool x.many) := C4.out.cell (HX.out.cell 7)
            obtain ⟨kd, hkd⟩ : ∃ kd, x.kind = kd := ⟨_, rfl⟩
            obtain ⟨mn7, hmn7⟩ : ∃ kd, x.many = kd := ⟨_, rfl⟩
            rw [hkd] at v0 HE hk4
            rw [hmn7] at v7 HE
            have e4 : (kd == 4) = false := by simpa using hk4
            clear hF1 HF
            by_cases hk1' : kd = 1
            · have e1 : (kd == 1) = true := by simpa using hk1'
              cases mn7 with
              | true =>
                have HE := Lib.hid (show itemF T x M' seen' = ((0, -1), M1, seen') by rw [HE.out]; unfold tailF; rw [if_neg (fun h => h rfl), if_neg (fun h => by cases h.2)]; rfl)
                have HR := Lib.hid (bw_next hst.out HE.out rfl)
                clear HE hst hk1' hk4
                go_wp2_with fail
                go_roundw
                case rel => exact ⟨k + 1, n1, M1, seen', _, by go_num, hlt, B4, S4, by omega, by omega, HR⟩
                case measure => first | (simp [intOf]; done) | (simp [intOf]; omega)
              | false =>
                have HE := Lib.hid (show itemF T x M' seen' = ((0, -1), M1, seen' ++ [x.name]) by rw [HE.out]; unfold tailF; rw [if_neg (fun h => h rfl), if_pos ⟨hk1', rfl⟩]; rfl)
                have HR := Lib.hid (bw_next hst.out HE.out rfl)
                clear HE hst hk1' hk4
                go_upto_region 19 with fail
                obtain ⟨hv8, hf8⟩ := B4.out.box
                have v2 : w4.cell? ⟨X, 2, none⟩ = some (.string x.name) := C4.out.cell (HX.out.cell 2)
                have hvd : w4.drew.cell? ⟨W.heap.size, 0, none⟩ = some (.slice sa' seen'.length sc') := hv8
                have v2d : w4.drew.cell? ⟨X, 2, none⟩ = some (.string x.name) := v2
                have hva : (w4.alloc (.cells #[.string x.name] 9)).cell? ⟨W.heap.size, 0, none⟩ = some (.slice sa' seen'.length sc') := keepCell ((Below.refl w4.heap.size w4).alloc (Nat.le_refl _) _) hv8
                have q1 : (seen'.length : Int) ≤ (sc' : Int) := by omega
                have L1 : seen'.length ≤ 1000000 := by omega
                have A4 := Lib.hid (show Below w4.heap.size w4 (w4.drew.alloc (.cells #[.string x.name] 9)) from (Below.refl _ _).drew.alloc (Nat.le_refl _) _)
                refine Hld.run_region (fun w' => w'.cell? ⟨W.heap.size, 0, none⟩ = some (.slice sa' seen'.length sc') ∧ w'.cell? ⟨X, 2, none⟩ = some (.string x.name)) 10 (by kernel_rfl) ?_
                have hSd : w4.drew.cell? ⟨W.heap.size, 0, none⟩ = some (.slice sa' seen'.length sc') ∧ w4.drew.cell? ⟨X, 2, none⟩ = some (.string x.name) := ⟨hv8, v2⟩
                refine Hld.Run.take (i := 0) (d := 11) (v := .slice sa' seen'.length sc') rfl (by kernel_rfl) (by kernel_rfl) (by kernel_rfl) (by kernel_rfl) (by kernel_rfl) (by kernel_rfl) (fun _ _ _ h => h) (Or.inl ⟨by rfl, ?_⟩) hSd ?_
                · intro w' hSw
                  obtain ⟨h1, h2⟩ := hSw
                  go_simp
                try simp only [Act.put, List.setIfInBounds_toArray]
                refine Hld.Run.take (i := 1) (d := 11) (v := .slice sa' seen'.length sc') rfl (by kernel_rfl) (by kernel_rfl) (by kernel_rfl) (by kernel_rfl) (by kernel_rfl) (by kernel_rfl) (fun _ _ _ h => h) (Or.inl ⟨by rfl, ?_⟩) hSd ?_
                · intro w' hSw
                  obtain ⟨h1, h2⟩ := hSw
                  go_simp
                try simp only [Act.put]
                refine Hld.Run.take (i := 2) (d := 11) (v := .int .i64 (seen'.length : Nat)) rfl (by kernel_rfl) (by kernel_rfl) (by kernel_rfl) (by kernel_rfl) (by kernel_rfl) (by kernel_rfl) (fun _ _ _ h => h) (Or.inl ⟨by rfl, ?_⟩) hSd ?_
                · intro w' hSw
                  obtain ⟨h1, h2⟩ := hSw
                  go_simp
                try simp only [Act.put]
                refine Hld.Run.take (i := 3) (d := 11) (v := .slice sa' seen'.length sc') rfl (by kernel_rfl) (by kernel_rfl) (by kernel_rfl) (by kernel_rfl) (by kernel_rfl) (by kernel_rfl) (fun _ _ _ h => h) (Or.inl ⟨by rfl, ?_⟩) hSd ?_
                · intro w' hSw
                  obtain ⟨h1, h2⟩ := hSw
                  go_simp
                try simp only [Act.put]
                refine Hld.Run.take (i := 4) (d := 11) (v := .int .i64 (seen'.length : Nat)) rfl (by kernel_rfl) (by kernel_rfl) (by kernel_rfl) (by kernel_rfl) (by kernel_rfl) (by kernel_rfl) (fun _ _ _ h => h) (Or.inl ⟨by rfl, ?_⟩) hSd ?_
                · intro w' hSw
                  obtain ⟨h1, h2⟩ := hSw
                  go_simp
                try simp only [Act.put]
                refine Hld.Run.take (i := 5) (d := 11) (v := .slice sa' seen'.length seen'.length) rfl (by kernel_rfl) (by kernel_rfl) (by kernel_rfl) (by kernel_rfl) (by kernel_rfl) (by kernel_rfl) (fun _ _ _ h => h) (Or.inl ⟨by rfl, ?_⟩) hSd ?_
                · intro w' hSw
                  obtain ⟨h1, h2⟩ := hSw
                  go_simp
                try simp only [Act.put]
                refine Hld.Run.take (i := 6) (d := 11) (v := .pointer (some ⟨X, 2, none⟩)) rfl (by kernel_rfl) (by kernel_rfl) (by kernel_rfl) (by kernel_rfl) (by kernel_rfl) (by kernel_rfl) (fun _ _ _ h => h) (Or.inl ⟨by rfl, ?_⟩) hSd ?_
                · intro w' hSw
                  obtain ⟨h1, h2⟩ := hSw
                  go_simp
                try simp only [Act.put]
                refine Hld.Run.take (i := 7) (d := 11) (v := .string x.name) rfl (by kernel_rfl) (by kernel_rfl) (by kernel_rfl) (by kernel_rfl) (by kernel_rfl) (by kernel_rfl) (fun _ _ _ h => h) (Or.inl ⟨by rfl, ?_⟩) hSd ?_
                · intro w' hSw
                  obtain ⟨h1, h2⟩ := hSw
                  go_simp
                try simp only [Act.put]
                refine Hld.Run.one (i := 8) (by kernel_rfl) rfl (fun K1 hK1 => ?_)
                go_simp
                have v2a : (w4.alloc (.cells #[.string x.name] 9)).cell? ⟨X, 2, none⟩ = some (.string x.name) := keepCell ((Below.refl w4.heap.size w4).alloc (Nat.le_refl _) _) v2
                have hnw : (w4.alloc (.cells #[.string x.name] 9)).drew.heap[w4.heap.size]? = some (.cells #[.string x.name] 9) := heap_alloc_new _ _
                have A5 := Lib.hid (show Below w4.heap.size w4 (w4.alloc (.cells #[.string x.name] 9)).drew from A4.out)
                refine hK1 _ _ ⟨fun _ => ⟨hva, v2a⟩, ?_⟩
                obtain ⟨w5, hw5⟩ : ∃ w5, (w4.alloc (.cells #[.string x.name] 9)).drew = w5 := ⟨_, rfl⟩
                rw [hw5] at A5 hnw ⊢
                clear hw5 hK1 K1 hva v2a hSd hvd v2d A4
                refine Hld.Run.one (i := 9) (by kernel_rfl) rfl (fun K2 hK2 => ?_)
                refine strs_step (by rfl) _ _ (by rfl) seen' sa' sc' (by rfl) (S4.out.below A5.out) L1 x.name _ (by rfl) (Src.ofSlice _ Tryz.underlying173 _ 1 1 [Value.string x.name] (by rfl) (World.news_of_block hnw) (by simp [Value.oneCell'])) ?_
                intro c9 w9 hS9 hb9
                have B9 := Lib.hid (B4.out.below (A5.out.trans (hb9.mono A5.out.size)))
                have S9 := Lib.hid hS9
                obtain ⟨hv9, hf9⟩ := B9.out.box
                have v29 : w9.cell? ⟨X, 2, none⟩ = some (.string x.name) := keepCell (A5.out.trans (hb9.mono A5.out.size)) v2
                try simp only [Act.put, List.setIfInBounds_toArray]
                refine hK2 _ _ ⟨fun _ => ⟨hv9, v29⟩, ?_⟩
                clear hS9 hb9 hK2 K2 hnw A5
                generalize w5.heap.size = N5 at *
                refine Hld.Run.one (i := 10) (by kernel_rfl) rfl (fun K3 hK3 => ?_)
                go_simp
                refine hK3 _ _ ⟨fun h => absurd rfl h, ?_⟩
                refine Hld.Run.done (by kernel_rfl) ?_ _
                clear hK3 K3
                have B10 := Lib.hid (B9.out.seen (.slice (some ⟨N5, 0, none⟩) (seen'.length + 1) c9))
                have hbx9 := B9.out.bx
                have S10 := Lib.hid (S9.out.set_other hbx9 (.slice (some ⟨N5, 0, none⟩) (seen'.length + 1) c9))
                go_wp2_with fail
                go_roundw
                case rel => exact ⟨k + 1, n1, M1, seen' ++ [x.name], _, by go_num, hlt, B10, S10, by omega, by rw [List.length_append, List.length_singleton]; omega, HR⟩
                case measure => first | (simp [intOf]; done) | (simp [intOf]; omega)
            · have e1 : (kd == 1) = false := by simpa using hk1'
              have HE := Lib.hid (show itemF T x M' seen' = ((0, -1), M1, seen') by rw [HE.out]; unfold tailF; rw [if_neg (fun h => h rfl), if_neg (fun h => hk1' h.1)]; rfl)
              have HR := Lib.hid (bw_next hst.out HE.out rfl)
              clear HE hst hk1' hk4
              go_wp2_with fail
              go_roundw
              case rel => exact ⟨k + 1, n1, M1, seen', _, by go_num, hlt, B4, S4, by omega, by omega, HR⟩
              case measure => first | (simp [intOf]; done) | (simp [intOf]; omega)
        · have e0 : (f1 == 0) = false := by simpa using hf0
          rw [e0]
          have HE := Lib.hid (show itemF T x M' seen' = ((f1, f2), M1, seen') by
            by_cases hk4 : x.kind = 4
            · rw [itemF_when hk4, HF.out, if_pos hf0, (hk1 hk4).2]
            · rw [hF1.out hk4]
              unfold tailF
              rw [if_pos hf0])
          have hR := Lib.hid (bw_fail hst.out HE.out hf0)
          clear hf0 e0 HE hF1 HF
          go_wp2_with fail
          refine bodyPost_ret (bw_results _ _ (W.heap.size + 1) (.int .i64 f1) (.int .i64 f2) rfl (by go_simp) (by go_simp)) rfl ?_
          exact bw_ret B4.out hR.out (by omega) _ _
    · have i2 : ¬ (k : Int) < (l.length : Int) := by omega
      have HA := Lib.hid (show itemsF T l M seen = (good, M', seen') from hF.out.trans (itemsF_end hlt))
      have hBF := Lib.hid (show blockF T l M seen = (rulesF l, M') by unfold blockF; rw [HA.out]; simp [good])
      have hn' : n ≤ mn + cl l := by omega
      clear hF HA hS hq hk hn
      go_wp2_with fail
      go_loopw [95] (fun i wq => B2R W mb n M' l i wq) (fun i _ => l.length - (intOf i).toNat)
      case atStart => exact ⟨0, _, rfl, Nat.zero_le _, hB, Lib.hid rfl⟩
      case round =>
        clear hB hck hlt hsc'
        obtain ⟨k, sv, rfl, hk, hB, hF⟩ := hrel
        have hck := Lib.hid (hB.out.ck HM.out)
        by_cases hlt : k < l.length
        · have hI1 := Lib.hid (HI.out.ck hck.out)
          obtain ⟨b, o, cv, iv, rfl, hc, hit⟩ := its_at hI1.out k hlt
          obtain ⟨⟨p8, rfl⟩, a12, c12, rfl⟩ := it_forms hit
          have i1 : (0 : Int) ≤ (k : Int) := by omega
          have i2 : (k : Int) < (l.length : Int) := by omega
          have hst := Lib.hid (hF.out.trans (firstOf_step hlt))
          have hwf := Lib.hid ((wfI_iff _).1 (HW.out l[k] (List.getElem_mem hlt))).1
          clear hF hit
          generalize l[k] = x at *
          have z0 : wr.cell? ⟨b, o + k * 13, none⟩ = some (.int .i64 x.kind) := hc 0 _ rfl
          have z1 : wr.cell? ⟨b, o + k * 13 + 1, none⟩ = some (.int .i64 (x.at_ : Nat)) := hc 1 _ rfl
          have z2 : wr.cell? ⟨b, o + k * 13 + 2, none⟩ = some (.string x.name) := hc 2 _ rfl
          have z3 : wr.cell? ⟨b, o + k * 13 + 3, none⟩ = some (.string x.type) := hc 3 _ rfl
          have z4 : wr.cell? ⟨b, o + k * 13 + 4, none⟩ = some (.int .i64 x.width) := hc 4 _ rfl
          have z5 : wr.cell? ⟨b, o + k * 13 + 5, none⟩ = some (.int .i64 x.order) := hc 5 _ rfl
          have z6 : wr.cell? ⟨b, o + k * 13 + 6, none⟩ = some (.bool x.signed) := hc 6 _ rfl
          have z7 : wr.cell? ⟨b, o + k * 13 + 7, none⟩ = some (.bool x.many) := hc 7 _ rfl
          have z8 : wr.cell? ⟨b, o + k * 13 + 8, none⟩ = some (.pointer p8) := hc 8 _ rfl
          have z9 : wr.cell? ⟨b, o + k * 13 + 9, none⟩ = some (.int .i64 x.rule) := hc 9 _ rfl
          have z10 : wr.cell? ⟨b, o + k * 13 + 10, none⟩ = some (.string x.first) := hc 10 _ rfl
          have z11 : wr.cell? ⟨b, o + k * 13 + 11, none⟩ = some (.string x.last) := hc 11 _ rfl
          have z12 : wr.cell? ⟨b, o + k * 13 + 12, none⟩ = some (.slice a12 x.items.length c12) := hc 12 _ rfl
          clear hc
          go_upto_region 24 with fail
          have HX := Lib.hid (show IB (wr.alloc (.cells #[.int .i64 x.kind, .int .i64 (x.at_ : Nat), .string x.name, .string x.type, .int .i64 x.width, .int .i64 x.order, .bool x.signed, .bool x.many, .pointer p8, .int .i64 x.rule, .string x.first, .string x.last, .slice a12 x.items.length c12] 78)) wr.heap.size (itVals x (.pointer p8) (.slice a12 x.items.length c12)) from heap_alloc_new _ _)
          have hbw := Lib.hid (show Below wr.heap.size wr (wr.alloc (.cells #[.int .i64 x.kind, .int .i64 (x.at_ : Nat), .string x.name, .string x.type, .int .i64 x.width, .int .i64 x.order, .bool x.signed, .bool x.many, .pointer p8, .int .i64 x.rule, .string x.first, .string x.last, .slice a12 x.items.length c12] 78)) from (Below.refl _ _).alloc (Nat.le_refl _) _)
          generalize wr.alloc (.cells #[.int .i64 x.kind, .int .i64 (x.at_ : Nat), .string x.name, .string x.type, .int .i64 x.width, .int .i64 x.order, .bool x.signed, .bool x.many, .pointer p8, .int .i64 x.rule, .string x.first, .string x.last, .slice a12 x.items.length c12] 78) = w1 at *
          have B1 := Lib.hid (hB.out.below hbw.out)
          have I1 := Lib.hid (hI1.out.below hbw.out)
          have hwr2 := World.block_lt_of_cell? wr _ hB.out.flt.1
          have hX1 := HX.out.lt
          obtain ⟨X, hXe⟩ : ∃ X, wr.heap.size = X := ⟨_, rfl⟩
          rw [hXe] at HX hX1 ⊢
          have hXW : W.heap.size + 1 < X := by rw [← hXe]; exact hwr2
          clear z0 z1 z2 z3 z4 z5 z6 z7 z8 z9 z10 z11 z12 hB hI1 hbw hwr2 hck
          clear hXe
          have y9 : w1.cell? ⟨X, 9, none⟩ = some (.int .i64 x.rule) := HX.out.cell 9
          have hwh := Lib.hid hwf.out
          obtain ⟨ru, hru⟩ : ∃ ru, x.rule = ru := ⟨_, rfl⟩
          rw [hru] at y9
          by_cases h0 : ru = 0
          · subst h0
            have hG := Lib.hid (show firstOf (ruleF l) l 0 = firstOf (ruleF l) (l.drop (k + 1)) (k + 1) by rw [hst.out]; unfold ruleF; rw [if_pos hru]; exact if_neg (fun h => h rfl))
            clear hst hwh
            go_wp2_with fail
            go_roundw
            case rel => exact ⟨k + 1, sv, by go_num, hlt, B1, hG⟩
            case measure => first | (simp [intOf]; done) | (simp [intOf]; omega)
          · have e9 : (ru == 0) = false := by simpa using h0
            have y10 : w1.cell? ⟨X, 10, none⟩ = some (.string x.first) := HX.out.cell 10
            have C1 := Lib.hid (which_any (W := w1) _ l hl x.first I1.out)
            have hA1 := whichI_lt l x.first
            obtain ⟨A, hA⟩ : ∃ A, whichI l x.first = A := ⟨_, rfl⟩
            rw [hA] at C1 hA1
            go_wp2_with fail
            refine (C1.out).mono ?_; rintro e w2 ⟨rfl, hb⟩
            have B2 := Lib.hid (B1.out.below hb)
            have I2 := Lib.hid (I1.out.below hb)
            have K2 := Lib.hid (Ck.below hb)
            have v9 := K2.out.cell y9
            clear B1 I1 C1 hb y9 y10
            go_upto_if 110 with fail
            go_cut [17] (fun v wx => v = .int .i64 (ruleB l x) ∧ Hid (BM W mb n M' sv wx) ∧ Hid (ItsAt wx (.slice (some ⟨b, o, none⟩) l.length cap) l) ∧ Hid (Ck w1 wx))
            case first =>
              by_cases h3 : ru = 3
              · subst h3
                have y11 : w2.cell? ⟨X, 11, none⟩ = some (.string x.last) := K2.out.cell (HX.out.cell 11)
                have C2 := Lib.hid (which_any (W := w2) _ l hl x.last I2.out)
                have hR : ruleB l x = whichI l x.last := if_pos hru
                clear h0
                go_wp2_with fail
                refine (C2.out).mono ?_; rintro e w3 ⟨rfl, hb⟩
                rw [← hR]
                have B3 := Lib.hid (B2.out.below hb)
                have I3 := Lib.hid (I2.out.below hb)
                have K3 := Lib.hid (K2.out.trans (Ck.below hb))
                clear hb C2
                go_wp2_with fail
                go_meet
                exact ⟨by rw [hR], B3, I3, K3⟩
              · have e3 : (ru == 3) = false := by simpa using h3
                have hR : ruleB l x = A := by unfold ruleB; rw [if_neg (by rw [hru]; exact h3), hA]
                go_wp2_with fail
                go_meet
                exact ⟨by rw [hR], B2, I2, K2⟩
            case rest =>
              clear B2 I2 K2 v9
              obtain ⟨rfl, B3, I3, K3⟩ := hcut
              have hB1 : -1 ≤ ruleB l x ∧ ruleB l x < l.length := by
                unfold ruleB
                split
                · exact whichI_lt l x.last
                · exact whichI_lt l x.first
              have hRF := Lib.hid (show ruleF l k x = if A < 0 ∨ ruleB l x < 0 then (7, (x.at_ : Int)) else if (ru = 2 ∧ manyAt l A = false) ∨ (ru = 3 ∧ (x.width ≠ 4 ∨ x.signed = true)) then (13, (x.at_ : Int)) else if ruleB l x < A then (10, (x.at_ : Int)) else if A ≤ k ∧ (k : Int) ≤ ruleB l x then (6, (x.at_ : Int)) else good by unfold ruleF; rw [if_neg (by rw [hru]; exact h0), hA, hru])
              obtain ⟨B, hB'⟩ : ∃ B, ruleB l x = B := ⟨_, rfl⟩
              rw [hB'] at hRF hB1 ⊢
              have v1 : wc.cell? ⟨X, 1, none⟩ = some (.int .i64 (x.at_ : Nat)) := K3.out.cell (HX.out.cell 1)
              have v4 : wc.cell? ⟨X, 4, none⟩ = some (.int .i64 x.width) := K3.out.cell (HX.out.cell 4)
              have v6 : wc.cell? ⟨X, 6, none⟩ = some (.bool x.signed) := K3.out.cell (HX.out.cell 6)
              have v9 : wc.cell? ⟨X, 9, none⟩ = some (.int .i64 ru) := by rw [← hru]; exact K3.out.cell (HX.out.cell 9)
              obtain ⟨r0, r1, g0⟩ := B3.out.flt
              have hrr := hwh.out.rule
              rw [hru] at hrr
              clear hB' hA hru K3 HX hwh
              by_cases hA0 : A < 0
              · have hR := Lib.hid (bw_bad hBF.out hst.out (hRF.out.trans (if_pos (.inl hA0))) (show (7 : Int) ≠ 0 by decide))
                clear hst hRF hBF
                go_wp2_with fail
                refine bodyPost_ret (bw_results _ _ (W.heap.size + 1) (.int .i64 7) (.int .i64 (x.at_ : Nat)) rfl (by go_simp) (by go_simp)) rfl ?_
                exact bw_ret B3.out hR.out hn' _ _
              by_cases hB0 : B < 0
              · have hR := Lib.hid (bw_bad hBF.out hst.out (hRF.out.trans (if_pos (.inr hB0))) (show (7 : Int) ≠ 0 by decide))
                clear hst hRF hBF
                go_wp2_with fail
                refine bodyPost_ret (bw_results _ _ (W.heap.size + 1) (.int .i64 7) (.int .i64 (x.at_ : Nat)) rfl (by go_simp) (by go_simp)) rfl ?_
                exact bw_ret B3.out hR.out hn' _ _
              have hRF := Lib.hid (hRF.out.trans (if_neg (fun h => by omega)))
              obtain ⟨a, rfl⟩ : ∃ a : Nat, A = a := ⟨A.toNat, by omega⟩
              obtain ⟨b2, rfl⟩ : ∃ a : Nat, B = a := ⟨B.toNat, by omega⟩
              have ha : a < l.length := by omega
              obtain ⟨b', o', cv', iv', e', hc', _⟩ := its_at I3.out a ha
              injection e' with e'
              injection e' with e1 e2
              subst e1 e2
              have u7 : wc.cell? ⟨b, o + a * 13 + 7, none⟩ = some (.bool l[a].many) := hc' 7 _ rfl
              have hmy : manyAt l (a : Int) = l[a].many := by unfold manyAt; rw [show ((a : Int)).toNat = a by omega, List.getElem?_eq_getElem ha]
              rw [hmy] at hRF
              generalize l[a].many = my at *
              generalize x.signed = sg at *
              generalize x.width = wd at *
              have j1 : (0 : Int) ≤ (a : Int) := by omega
              have j2 : (a : Int) < (l.length : Int) := by omega
              have nA : ¬ (a : Int) < 0 := by omega
              have nB : ¬ (b2 : Int) < 0 := by omega
              clear hc' hA0 hB0 hmy hA1 hB1
              go_upto_region 31 with fail
              go_cut [125] (fun v wx => wx = wc ∧ ∃ bb : Bool, v = .bool bb ∧ (bb = true ↔ (ru = 2 ∧ my = false) ∨ (ru = 3 ∧ (wd ≠ 4 ∨ sg = true))))
              case first =>
                by_cases h2 : ru = 2
                · subst h2
                  cases my with
                  | true =>
                    go_wp2_with fail
                    go_meet
                    exact ⟨rfl, _, rfl, by simp⟩
                  | false =>
                    go_wp2_with fail
                    go_meet
                    exact ⟨rfl, _, rfl, by simp⟩
                · have e2 : (ru == 2) = false := by simpa using h2
                  by_cases h3 : ru = 3
                  · subst h3
                    by_cases h4 : wd = 4
                    · subst h4
                      go_wp2_with fail
                      go_meet
                      exact ⟨rfl, _, rfl, by simp⟩
                    · have e4 : (wd != 4) = true := by simpa using h4
                      go_wp2_with fail
                      go_meet
                      exact ⟨rfl, _, rfl, by simp [h4]⟩
                  · have e3 : (ru == 3) = false := by simpa using h3
                    go_wp2_with fail
                    go_meet
                    exact ⟨rfl, _, rfl, by simp [h2, h3]⟩
              case rest =>
                obtain ⟨rfl, bb, rfl, hbb⟩ := hcut
                cases bb with
                | true =>
                  have hR := Lib.hid (bw_bad hBF.out hst.out (hRF.out.trans (if_pos (hbb.1 rfl))) (show (13 : Int) ≠ 0 by decide))
                  clear hst hRF hBF hbb
                  go_wp2_with fail
                  refine bodyPost_ret (bw_results _ _ (W.heap.size + 1) (.int .i64 13) (.int .i64 (x.at_ : Nat)) rfl (by go_simp) (by go_simp)) rfl ?_
                  exact bw_ret B3.out hR.out hn' _ _
                | false =>
                  have hRF := Lib.hid (hRF.out.trans (if_neg (fun h => by have := hbb.2 h; cases this)))
                  clear hbb
                  by_cases hab : b2 < a
                  · have d1 : (b2 : Int) < (a : Int) := by omega
                    have hR := Lib.hid (bw_bad hBF.out hst.out (hRF.out.trans (if_pos d1)) (show (10 : Int) ≠ 0 by decide))
                    clear hst hRF hBF
                    go_wp2_with fail
                    refine bodyPost_ret (bw_results _ _ (W.heap.size + 1) (.int .i64 10) (.int .i64 (x.at_ : Nat)) rfl (by go_simp) (by go_simp)) rfl ?_
                    exact bw_ret B3.out hR.out hn' _ _
                  · have d1 : ¬ (b2 : Int) < (a : Int) := by omega
                    have hRF := Lib.hid (hRF.out.trans (if_neg d1))
                    have CW := Lib.hid (within_any (k : Int) (a : Int) (b2 : Int) wc)
                    obtain ⟨bw, hbw⟩ : ∃ q, (decide ((a : Int) ≤ (k : Int)) && decide ((k : Int) ≤ (b2 : Int))) = q := ⟨_, rfl⟩
                    rw [hbw] at CW
                    have hbw' := Lib.hid hbw
                    clear hbw
                    go_wp2_with fail
                    refine (CW.out).mono ?_; rintro e wz ⟨rfl, rfl⟩
                    cases bw with
                    | true =>
                      have hR := Lib.hid (bw_bad hBF.out hst.out (hRF.out.trans (if_pos (by simpa using hbw'.out))) (show (6 : Int) ≠ 0 by decide))
                      clear hst hRF hBF hbw'
                      go_wp2_with fail
                      refine bodyPost_ret (bw_results _ _ (W.heap.size + 1) (.int .i64 6) (.int .i64 (x.at_ : Nat)) rfl (by go_simp) (by go_simp)) rfl ?_
                      exact bw_ret B3.out hR.out hn' _ _
                    | false =>
                      have hG := Lib.hid (show firstOf (ruleF l) l 0 = firstOf (ruleF l) (l.drop (k + 1)) (k + 1) by rw [hst.out, hRF.out.trans (if_neg (fun h => by have := hbw'.out; simp [h.1, h.2] at this))]; exact if_neg (fun h => h rfl))
                      clear hst hRF hbw'
                      go_wp2_with fail
                      go_roundw
                      case rel => exact ⟨k + 1, sv, by go_num, hlt, B3, hG⟩
                      case measure => first | (simp [intOf]; done) | (simp [intOf]; omega)
        · have i2 : ¬ (k : Int) < (l.length : Int) := by omega
          have HA := Lib.hid (show firstOf (ruleF l) l 0 = good from hF.out.trans (firstOf_end hlt))
          have hBF := Lib.hid (show blockF T l M seen = (firstOf (cycF l) l 0, M') by rw [hBF.out]; unfold rulesF; rw [HA.out, if_neg (fun h => h rfl)])
          clear hF HA hk
          go_wp2_with fail
          go_loopw [172] (fun i wq => B3R W mb n M' l i wq) (fun i _ => l.length - (intOf i).toNat)
          case atStart => exact ⟨0, _, rfl, Nat.zero_le _, hB, Lib.hid rfl⟩
          case round =>
            clear hB hck hlt
            obtain ⟨k, sv, rfl, hk, hB, hF⟩ := hrel
            have hck := Lib.hid (hB.out.ck HM.out)
            by_cases hlt : k < l.length
            · have hI1 := Lib.hid (HI.out.ck hck.out)
              obtain ⟨b, o, cv, iv, rfl, hc, hit⟩ := its_at hI1.out k hlt
              obtain ⟨⟨p8, rfl⟩, a12, c12, rfl⟩ := it_forms hit
              have i1 : (0 : Int) ≤ (k : Int) := by omega
              have i2 : (k : Int) < (l.length : Int) := by omega
              have hst := Lib.hid (hF.out.trans (firstOf_step hlt))
              clear hF hit
              generalize l[k] = x at *
              have z0 : wr.cell? ⟨b, o + k * 13, none⟩ = some (.int .i64 x.kind) := hc 0 _ rfl
              have z1 : wr.cell? ⟨b, o + k * 13 + 1, none⟩ = some (.int .i64 (x.at_ : Nat)) := hc 1 _ rfl
              have z2 : wr.cell? ⟨b, o + k * 13 + 2, none⟩ = some (.string x.name) := hc 2 _ rfl
              have z3 : wr.cell? ⟨b, o + k * 13 + 3, none⟩ = some (.string x.type) := hc 3 _ rfl
              have z4 : wr.cell? ⟨b, o + k * 13 + 4, none⟩ = some (.int .i64 x.width) := hc 4 _ rfl
              have z5 : wr.cell? ⟨b, o + k * 13 + 5, none⟩ = some (.int .i64 x.order) := hc 5 _ rfl
              have z6 : wr.cell? ⟨b, o + k * 13 + 6, none⟩ = some (.bool x.signed) := hc 6 _ rfl
              have z7 : wr.cell? ⟨b, o + k * 13 + 7, none⟩ = some (.bool x.many) := hc 7 _ rfl
              have z8 : wr.cell? ⟨b, o + k * 13 + 8, none⟩ = some (.pointer p8) := hc 8 _ rfl
              have z9 : wr.cell? ⟨b, o + k * 13 + 9, none⟩ = some (.int .i64 x.rule) := hc 9 _ rfl
              have z10 : wr.cell? ⟨b, o + k * 13 + 10, none⟩ = some (.string x.first) := hc 10 _ rfl
              have z11 : wr.cell? ⟨b, o + k * 13 + 11, none⟩ = some (.string x.last) := hc 11 _ rfl
              have z12 : wr.cell? ⟨b, o + k * 13 + 12, none⟩ = some (.slice a12 x.items.length c12) := hc 12 _ rfl
              clear hc
              go_upto_region 41 with fail
              have HX := Lib.hid (show IB (wr.alloc (.cells #[.int .i64 x.kind, .int .i64 (x.at_ : Nat), .string x.name, .string x.type, .int .i64 x.width, .int .i64 x.order, .bool x.signed, .bool x.many, .pointer p8, .int .i64 x.rule, .string x.first, .string x.last, .slice a12 x.items.length c12] 78)) wr.heap.size (itVals x (.pointer p8) (.slice a12 x.items.length c12)) from heap_alloc_new _ _)
              have hbw := Lib.hid (show Below wr.heap.size wr (wr.alloc (.cells #[.int .i64 x.kind, .int .i64 (x.at_ : Nat), .string x.name, .string x.type, .int .i64 x.width, .int .i64 x.order, .bool x.signed, .bool x.many, .pointer p8, .int .i64 x.rule, .string x.first, .string x.last, .slice a12 x.items.length c12] 78)) from (Below.refl _ _).alloc (Nat.le_refl _) _)
              generalize wr.alloc (.cells #[.int .i64 x.kind, .int .i64 (x.at_ : Nat), .string x.name, .string x.type, .int .i64 x.width, .int .i64 x.order, .bool x.signed, .bool x.many, .pointer p8, .int .i64 x.rule, .string x.first, .string x.last, .slice a12 x.items.length c12] 78) = w1 at *
              have B1 := Lib.hid (hB.out.below hbw.out)
              have I1 := Lib.hid (hI1.out.below hbw.out)
              have hwr2 := World.block_lt_of_cell? wr _ hB.out.flt.1
              have hX1 := HX.out.lt
              obtain ⟨X, hXe⟩ : ∃ X, wr.heap.size = X := ⟨_, rfl⟩
              rw [hXe] at HX hX1 ⊢
              have hXW : W.heap.size + 1 < X := by rw [← hXe]; exact hwr2
              clear z0 z1 z2 z3 z4 z5 z6 z7 z8 z9 z10 z11 z12 hB hI1 hbw hwr2 hck
              clear hXe
              have y9 : w1.cell? ⟨X, 9, none⟩ = some (.int .i64 x.rule) := HX.out.cell 9
              have y1 : w1.cell? ⟨X, 1, none⟩ = some (.int .i64 (x.at_ : Nat)) := HX.out.cell 1
              obtain ⟨ru, hru⟩ : ∃ ru, x.rule = ru := ⟨_, rfl⟩
              rw [hru] at y9
              by_cases h3 : ru = 3
              · subst h3
                have C1 := Lib.hid (comes_any (W := w1) _ l hl I1.out k hlt k)
                go_wp2_with fail
                refine (C1.out).mono ?_; rintro e w2 ⟨⟨bb, rfl, hbb⟩, hb⟩
                have B2 := Lib.hid (B1.out.below hb)
                have K2 := Ck.below hb
                have v1 := K2.cell y1
                obtain ⟨r0, r1, g0⟩ := B2.out.flt
                clear B1 I1 C1 hb y1 y9 K2
                cases bb with
                | true =>
                  have hC : cycF l k x = (11, (x.at_ : Int)) := if_pos ⟨hru, hbb.1 rfl⟩
                  have hR := Lib.hid (show blockF T l M seen = ((11, (x.at_ : Int)), M') by rw [hBF.out, hst.out, hC, if_pos (show (11 : Int) ≠ 0 by decide)])
                  clear hst hBF hbb hC
                  go_wp2_with fail
                  refine bodyPost_ret (bw_results _ _ (W.heap.size + 1) (.int .i64 11) (.int .i64 (x.at_ : Nat)) rfl (by go_simp) (by go_simp)) rfl ?_
                  exact bw_ret B2.out hR.out hn' _ _
                | false =>
                  have hC : cycF l k x = good := if_neg (fun h => by have := hbb.2 h.2; cases this)
                  have hG := Lib.hid (show firstOf (cycF l) l 0 = firstOf (cycF l) (l.drop (k + 1)) (k + 1) by rw [hst.out, hC]; exact if_neg (fun h => h rfl))
                  clear hst hbb hC
                  go_wp2_with fail
                  go_roundw
                  case rel => exact ⟨k + 1, sv, by go_num, hlt, B2, hG⟩
                  case measure => first | (simp [intOf]; done) | (simp [intOf]; omega)
              · have e3 : (ru == 3) = false := by simpa using h3
                have hC : cycF l k x = good := if_neg (fun h => h3 (hru.symm.trans h.1))
                have hG := Lib.hid (show firstOf (cycF l) l 0 = firstOf (cycF l) (l.drop (k + 1)) (k + 1) by rw [hst.out, hC]; exact if_neg (fun h => h rfl))
                clear hst hC
                go_wp2_with fail
                go_roundw
                case rel => exact ⟨k + 1, sv, by go_num, hlt, B1, hG⟩
                case measure => first | (simp [intOf]; done) | (simp [intOf]; omega)
            · have i2 : ¬ (k : Int) < (l.length : Int) := by omega
              have hR := Lib.hid (show blockF T l M seen = (good, M') by rw [hBF.out, hF.out, firstOf_end hlt])
              clear hF hBF
              go_wp2_with fail
              refine (good_any _).mono ?_; rintro e w3 ⟨rfl, hb⟩
              have B3 := Lib.hid (hB.out.below hb)
              obtain ⟨r0, r1, g0⟩ := B3.out.flt
              clear hb hB
              go_wp2_with fail
              refine bodyPost_ret (bw_results _ _ (W.heap.size + 1) (.int .i64 0) (.int .i64 (-1)) rfl (by go_simp) (by go_simp)) rfl ?_
              exact bw_ret B3.out hR.out hn' _ _
end
theorem block_all : ∀ N, BlkC N
  | 0 => fun _ _ _ _ _ _ _ _ _ _ _ h => absurd h (Nat.not_lt_zero _)
  | N + 1 => block_step N (block_all N)
end Go.Proofs.YtkopjmofdnlplaaGreatDoor.Tm
