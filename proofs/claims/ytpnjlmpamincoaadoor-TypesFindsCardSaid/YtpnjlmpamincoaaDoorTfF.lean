/-
  PROVED HERE: the memory of the program's checker. Conditions: as each theorem states.
-/
import Derived.Test.YtpnjlmpamincoaaDoorTfE
namespace Go.Proofs.YtpnjlmpamincoaaDoor.Tm
open Go.Maps Go.ChangeShapes Go.RowKit Go.Proofs.YtpnjlmpamincoaaDoor.Lex Go.Proofs.YtpnjlmpamincoaaDoor.Dig
/-- The map of numbers at block b: 1 where M holds. -/
def MN (w : World) (b n : Nat) (M : ByteArray → Bool) : Prop := ∃ D : DataW Unit, w.ownsMap Tryd.prog 9 (plainElem Tryd.prog 3) b n D ∧ IsMap D ∧ ∀ x : ByteArray, D.atKey (.string x.data.toList) (.lit (.int .i64 0)) = .lit (.int .i64 (if M x = true then 1 else 0))
theorem mN_new (w : World) : MN (w.alloc (.map #[] 0)) w.heap.size 0 (fun _ => false) :=
  ⟨.map [], World.ownsMap_made w _ _ _, (World.ownsMap_made w Tryd.prog 9 (plainElem (H := Unit) Tryd.prog 3)).isMap, fun _ => rfl⟩
theorem MN.at_ {w w' : World} {b n : Nat} {M : ByteArray → Bool} (h : MN w b n M) (e : w'.heap[b]? = w.heap[b]?) : MN w' b n M := by
  obtain ⟨D, ⟨es, c, h1, h2⟩, h3⟩ := h
  exact ⟨D, ⟨es, c, e.trans h1, h2⟩, h3⟩
theorem MN.block {w : World} {b n : Nat} {M : ByteArray → Bool} (h : MN w b n M) : ∃ es c, w.heap[b]? = some (.map es c) := by
  obtain ⟨D, ⟨es, c, h, _⟩, _⟩ := h
  exact ⟨es, c, h⟩
theorem MN.lt {w : World} {b n : Nat} {M : ByteArray → Bool} (h : MN w b n M) : b < w.heap.size := by
  obtain ⟨es, c, h⟩ := h.block
  exact (Array.getElem?_eq_some_iff.1 h).1
theorem MN.below {w w' : World} {b n : Nat} {M : ByteArray → Bool} (h : MN w b n M) (hb : Below w.heap.size w w') : MN w' b n M := h.at_ (hb.block _ h.lt)
set_option maxRecDepth 20000 in
theorem MN.get {w : World} {b n : Nat} {M : ByteArray → Bool} (h : MN w b n M) (x : ByteArray) (hx : x.size ≤ 1000) : (Instr.lookup 55 (.map (some b)) (.string x) false).run Tryd.prog w = .ok (.int .i64 (if M x = true then 1 else 0)) w := by
  obtain ⟨D, h1, h2, h3⟩ := h
  obtain ⟨c, hrun, hat, _⟩ := h1.lookup_int keyedS Tryd.underlying55 Tryd.underlying3 (zero8 w) (Go.WideMaps.keyOf_string_mk Tryd.underlying9 (s := x) (by unfold maxLen; omega))
  rw [h3 x] at hat
  injection hat with hat
  injection hat with _ hat
  rw [hat]
  exact hrun
theorem MN.put {w : World} {b n : Nat} {M : ByteArray → Bool} (h : MN w b n M) (hn : n ≤ 1000000) (x : ByteArray) (hx : x.size ≤ 1000) : ∃ w', (Instr.mapUpdate 55 (.map (some b)) (.string x) (.int .i64 1)).run Tryd.prog w = .ok () w' ∧ MN w' b (n + 1) (putM M x) ∧ w.grownBy w' (some b) := by
  obtain ⟨D, h1, h2, h3⟩ := h
  obtain ⟨w', r1, r2, r3⟩ := h1.update keyedS Tryd.underlying55 (by unfold maxLen; omega) (Go.WideMaps.keyOf_string_mk Tryd.underlying9 (s := x) (by unfold maxLen; omega)) (plainElem_int (H := Unit) Tryd.underlying3 (wf64 1 (by omega)))
  refine ⟨w', r1, ⟨_, r2, h2.put _ _, fun y => ?_⟩, r3⟩
  show _ = DataW.lit (.int .i64 (if (if y = x then true else M y) = true then 1 else 0))
  by_cases e : y = x
  · subst e
    rw [if_pos rfl]
    exact atKey_put_same h2 (by trivial) _ _
  · rw [if_neg e, atKey_put_other (fun q => by injection q with q; exact e (by apply ByteArray.ext; exact Array.toList_inj.1 q))]
    exact h3 y
theorem qu_strs {w : World} {B : Nat} {v : Value} {xs : List ByteArray} (h : Qu w B v (xs.map Value.string)) : StrsAt w v xs := by
  rcases h with ⟨rfl, h0⟩ | ⟨g, o, cap, rfl, _, _, hc, _, hcell⟩
  · obtain rfl : xs = [] := by simpa using h0
    exact ⟨none, 0, rfl, Nat.le_refl _, fun j hj => absurd hj (Nat.not_lt_zero j)⟩
  · rw [List.length_map] at hc ⊢
    refine ⟨_, cap, rfl, hc, fun j hj => ⟨g, o, rfl, hcell j _ ?_⟩⟩
    rw [List.getElem?_map, List.getElem?_eq_getElem hj]
    rfl
/-- What an elder row of texts has changed: the boxes C and mb, the row ob, and what is new. -/
structure Ch (C mb : Nat) (ob : Option Nat) (w w' : World) : Prop where
  os : w'.os = w.os
  tape : w'.tape = w.tape
  output : w'.output = w.output
  size : w.heap.size ≤ w'.heap.size
  block : ∀ k, k < w.heap.size → k ≠ C → k ≠ mb → some k ≠ ob → w'.heap[k]? = w.heap[k]?
theorem Ch.refl (C mb : Nat) (ob : Option Nat) (w : World) : Ch C mb ob w w := ⟨rfl, rfl, rfl, Nat.le_refl _, fun _ _ _ _ _ => rfl⟩
theorem Ch.of_below {C mb : Nat} {ob : Option Nat} {w w' : World} (h : Below w.heap.size w w') : Ch C mb ob w w' := ⟨h.os, h.tape, h.output, h.size, fun k hk _ _ _ => h.block k hk⟩
theorem Ch.trans {C mb : Nat} {ob ob1 : Option Nat} {w w1 w2 : World} (h : Ch C mb ob w w1) (g : Ch C mb ob1 w1 w2) (ho : ∀ k, ob1 = some k → ob = some k ∨ w.heap.size ≤ k) : Ch C mb ob w w2 :=
  ⟨g.os.trans h.os, g.tape.trans h.tape, g.output.trans h.output, Nat.le_trans h.size g.size, fun k hk h1 h2 h3 => (g.block k (Nat.lt_of_lt_of_le hk h.size) h1 h2 (fun e => by
    rcases ho k e.symm with e2 | e2
    · exact h3 e2.symm
    · omega)).trans (h.block k hk h1 h2 h3)⟩
theorem Ch.low {B C mb : Nat} {ob : Option Nat} {W w w' : World} (h : Ch C mb ob w w') (hb : Below B W w) (hC : B ≤ C) (hm : B ≤ mb) (ho : ∀ k, ob = some k → B ≤ k) (hW : B ≤ w.heap.size) : Below B W w' :=
  hb.trans ⟨h.os, h.tape, h.output, h.size, fun k hk => h.block k (by omega) (by omega) (by omega) (fun e => by have := ho k e.symm; omega)⟩
/-- The checker at C: the maps of types and of names, what is seen. -/
structure CK (B C tb mb tn n : Nat) (T M : ByteArray → Bool) (sv : Value) (seen : List ByteArray) (w : World) : Prop where
  c : w.heap[C]? = some (.cells #[.map (some tb), .map (some mb), sv] 59)
  ty : MN w tb tn T
  nm : MN w mb n M
  sn : Qu w B sv (seen.map Value.string)
  ne : tb ≠ mb
  hC : B ≤ C
  hm : B ≤ mb
  s1 : sv.ownBlock ≠ some C
  s2 : sv.ownBlock ≠ some mb
  s3 : sv.ownBlock ≠ some tb
theorem CK.lt {B C tb mb tn n : Nat} {T M : ByteArray → Bool} {sv : Value} {seen : List ByteArray} {w : World} (h : CK B C tb mb tn n T M sv seen w) : C < w.heap.size := (Array.getElem?_eq_some_iff.1 h.c).1
theorem CK.below {B C tb mb tn n : Nat} {T M : ByteArray → Bool} {sv : Value} {seen : List ByteArray} {w w' : World} (h : CK B C tb mb tn n T M sv seen w) (hb : Below w.heap.size w w') : CK B C tb mb tn n T M sv seen w' :=
  ⟨(hb.block _ h.lt).trans h.c, h.ty.below hb, h.nm.below hb, h.sn.below hb, h.ne, h.hC, h.hm, h.s1, h.s2, h.s3⟩
theorem CK.cm {B C tb mb tn n : Nat} {T M : ByteArray → Bool} {sv : Value} {seen : List ByteArray} {w : World} (h : CK B C tb mb tn n T M sv seen w) : C ≠ mb ∧ C ≠ tb := by
  obtain ⟨es, c, h1⟩ := h.nm.block
  obtain ⟨es2, c2, h2⟩ := h.ty.block
  have h3 := h.c
  exact ⟨fun e => (by rw [← e, h3] at h1; cases h1), fun e => (by rw [← e, h3] at h2; cases h2)⟩
theorem CK.cell {B C tb mb tn n : Nat} {T M : ByteArray → Bool} {sv : Value} {seen : List ByteArray} {w : World} (h : CK B C tb mb tn n T M sv seen w) : w.cell? ⟨C, 0, none⟩ = some (.map (some tb)) ∧ w.cell? ⟨C, 1, none⟩ = some (.map (some mb)) ∧ w.cell? ⟨C, 2, none⟩ = some sv ∧ ∀ j, w.frozen? ⟨C, j, none⟩ = false := by
  refine ⟨by unfold World.cell?; rw [h.c]; rfl, by unfold World.cell?; rw [h.c]; rfl, by unfold World.cell?; rw [h.c]; rfl, fun j => ?_⟩
  unfold World.frozen?
  rw [h.c]
  rfl
theorem Qu.row {w w' : World} {B : Nat} {v : Value} {xs : List Value} (h : Qu w B v xs) (hs : w.heap.size ≤ w'.heap.size) (e : ∀ k, v.ownBlock = some k → w'.heap[k]? = w.heap[k]?) : Qu w' B v xs := by
  rcases h with h | ⟨g, o, cap, rfl, h1, h2, h3, h4, h5⟩
  · exact .inl h
  · have e := e g rfl
    refine .inr ⟨g, o, cap, rfl, h1, Nat.lt_of_lt_of_le h2 hs, h3, fun j hj => ⟨?_, ?_⟩, fun j u hu => ?_⟩
    · rw [World.cell?_of_block (a := ⟨g, o + j, none⟩) e]; exact (h4 j hj).1
    · rw [World.frozen?_of_block (a := ⟨g, o + j, none⟩) e]; exact (h4 j hj).2
    · rw [World.cell?_of_block (a := ⟨g, o + j, none⟩) e]; exact h5 j u hu
theorem Qu.lt {w : World} {B : Nat} {v : Value} {xs : List Value} (h : Qu w B v xs) : ∀ k, v.ownBlock = some k → B ≤ k ∧ k < w.heap.size := by
  rcases h with ⟨rfl, _⟩ | ⟨g, o, cap, rfl, h1, h2, _⟩
  · intro k e; cases e
  · intro k e
    have : g = k := by simpa [Value.ownBlock] using e
    subst this
    exact ⟨h1, h2⟩
theorem CK.names {B C tb mb tn n n' : Nat} {T M M' : ByteArray → Bool} {sv : Value} {seen : List ByteArray} {w w' : World} (h : CK B C tb mb tn n T M sv seen w) (hg : w.grownBy w' (some mb)) (hm : MN w' mb n' M') : CK B C tb mb tn n' T M' sv seen w' := by
  have hcm := h.cm
  refine ⟨(hg.block _ h.lt (fun e => hcm.1 (by injection e))).trans h.c, h.ty.at_ (hg.block _ h.ty.lt (fun e => h.ne (by injection e))), hm, h.sn.row hg.size fun k e => hg.block _ (h.sn.lt k e).2 (fun e2 => h.s2 (by rw [e]; exact e2)), h.ne, h.hC, h.hm, h.s1, h.s2, h.s3⟩
theorem Qu.first {w : World} {B : Nat} {v : Value} {x : Value} {xs : List Value} (h : Qu w B v (x :: xs)) : ∃ g o c, v = .slice (some ⟨g, o, none⟩) (xs.length + 1) c ∧ w.cell? ⟨g, o, none⟩ = some x := by
  rcases h with ⟨_, h⟩ | ⟨g, o, cap, rfl, _, _, _, _, hc⟩
  · cases h
  · exact ⟨g, o, cap, by simp, hc 0 x rfl⟩
/-- A name more that is seen, put into the checker. -/
theorem CK.snoc {B C tb mb tn n : Nat} {T M : ByteArray → Bool} {sv v' : Value} {seen : List ByteArray} {s : ByteArray} {w w' : World} (h : CK B C tb mb tn n T M sv seen w) (hq : Qu w' B v' ((seen ++ [s]).map Value.string)) (hg : w.grownBy w' sv.ownBlock) :
    CK B C tb mb tn n T M v' (seen ++ [s]) (w'.setCell ⟨C, 2, none⟩ v') ∧ w'.cell? ⟨C, 2, none⟩ = some sv ∧ w'.frozen? ⟨C, 2, none⟩ = false ∧ w'.heap[C]? = some (.cells #[.map (some tb), .map (some mb), sv] 59) := by
  have hcm := h.cm
  have c1 := (hg.block _ h.lt (fun e => h.s1 e.symm)).trans h.c
  have m1 := h.nm.at_ (hg.block _ h.nm.lt (fun e => h.s2 e.symm))
  have hl : ∃ x xs, (seen ++ [s]).map Value.string = .string x :: xs := by
    cases seen with
    | nil => exact ⟨s, [], rfl⟩
    | cons y r => exact ⟨y, _, rfl⟩
  obtain ⟨x, xs, hx⟩ := hl
  have hq2 := hq
  rw [hx] at hq2
  obtain ⟨g, o, cp, e, hc⟩ := hq2.first
  have n1 : v'.ownBlock ≠ some C := by
    rw [e]
    intro e2
    have e3 : g = C := by simpa [Value.ownBlock] using e2
    unfold World.cell? at hc
    rw [e3, c1] at hc
    rcases o with _ | _ | _ | o <;> simp at hc
    obtain ⟨a, c, rfl⟩ := h.sn.len
    cases hc
  have n2 : v'.ownBlock ≠ some mb := by
    rw [e]
    intro e2
    have e3 : g = mb := by simpa [Value.ownBlock] using e2
    obtain ⟨es, c, h1⟩ := m1.block
    unfold World.cell? at hc
    rw [e3, h1] at hc
    cases hc
  have t1 := h.ty.at_ (hg.block _ h.ty.lt (fun e => h.s3 e.symm))
  have n3 : v'.ownBlock ≠ some tb := by
    rw [e]
    intro e2
    have e3 : g = tb := by simpa [Value.ownBlock] using e2
    obtain ⟨es, c, h1⟩ := t1.block
    unfold World.cell? at hc
    rw [e3, h1] at hc
    cases hc
  refine ⟨⟨?_, t1.at_ (Below.heap_setCell _ _ _ _ (show tb ≠ C from fun e => hcm.2 e.symm)), ?_, ?_, h.ne, h.hC, h.hm, n1, n2, n3⟩, by unfold World.cell?; rw [c1]; rfl, by unfold World.frozen?; rw [c1]; rfl, c1⟩
  · simp [World.setCell, Array.getElem?_modify, c1]
  · exact m1.at_ (Below.heap_setCell _ _ _ _ (show mb ≠ C from fun e => hcm.1 e.symm))
  · refine hq.row (by simp [World.setCell]) fun k e2 => Below.heap_setCell _ _ _ _ (fun e3 => n1 (by rw [e2, e3]))
section
variable {P : Program} {w : World}
theorem qu_append2 {B T E : Nat} {v x : Value} {xs news : List Value} {n ty : Nat} {i : TypeInfo} {z : Value} (hv : Qu w B v xs) (ht : P.underlying T = some (.slice E)) (hi : P.info? E = some i) (hz : i.zero = some z) (h1 : i.size = 1) (hzs : z.cells.size = 1)
    (hs : Src P 1 T x n news w) (hlen : (xs.length + n) * i.bytes ≤ 140737488355328) (h63 : xs.length + n ≤ maxLen) (hB : B ≤ w.heap.size) :
    ∃ v' w', (Builtin.append_ #[T, T] ty #[v, x]).run P w = .ok v' w' ∧ Qu w' B v' (xs ++ news) ∧ Below B w w' ∧ w.grownBy w' v.ownBlock ∧ (v'.ownBlock = v.ownBlock ∨ v'.ownBlock = some w.heap.size) := by
  have hn : news.length = n := by simpa using hs.newsLen
  have hs1 : Src P i.size T x n news w := by rw [h1]; exact hs
  have grown : ∀ old : Nat, old < xs.length + n → Qu (w.drew.alloc (.cells ((xs ++ news).toArray ++ Builtin.zeroCells z.cells (grownCap w (xs.length + n) old E - (xs.length + n))) E)) B (.slice (some ⟨w.heap.size, 0, none⟩) (xs.length + n) (grownCap w (xs.length + n) old E)) (xs ++ news) := by
    intro old ho
    have hge := grownCap_ge w (xs.length + n) old E
    have hcm : grownCap w (xs.length + n) old E ≤ maxLen := grownCap_le_maxLen w (xs.length + n) old E h63
    have hl : (xs ++ news).length = xs.length + n := by rw [List.length_append, hn]
    have ho : Own (w.drew.alloc (.cells ((xs ++ news).toArray ++ Builtin.zeroCells z.cells (grownCap w (xs.length + n) old E - (xs.length + n))) E)) B E (.slice (some ⟨w.heap.size, 0, none⟩) (xs.length + n) (grownCap w (xs.length + n) old E)) (xs ++ news) := by
      unfold Own
      rw [hl]
      refine ⟨by omega, .inr ⟨w.heap.size, _, _, rfl, hB, heap_alloc_new w.drew _, hge, hcm, ?_, ?_⟩⟩
      · simp only [Array.size_append, List.size_toArray, size_zeroCells, hzs, hl]
        omega
      · simp only [Array.toList_append]
        rw [show (xs.length + n) * 1 = (xs ++ news).length by omega]
        exact List.take_left
    exact own_qu ho
  have hbl : ∀ o : Obj, Below B w (w.drew.alloc o) := fun o => ((Below.refl B w).drew).alloc hB o
  have hgr : ∀ (o : Obj) (row : Option Nat), w.grownBy (w.drew.alloc o) row := fun o row => ⟨rfl, rfl, rfl, by simp, fun k hk _ => heap_alloc_old w.drew _ hk⟩
  rcases hv with ⟨rfl, rfl⟩ | ⟨g, o, cap, rfl, hg, hgl, hc, hroom, hcell⟩
  · by_cases h0 : n = 0
    · subst h0
      obtain rfl : news = [] := List.eq_nil_of_length_eq_zero hn
      refine ⟨.slice none 0 0, w, ?_, .inl ⟨rfl, rfl⟩, Below.refl _ _, ⟨rfl, rfl, rfl, Nat.le_refl _, fun _ _ _ => rfl⟩, .inl rfl⟩
      have hsc := hs1.cells
      rcases hs.kind with ⟨e', hk⟩ | hk <;> simp [Builtin.append_, run_underlying ht, sizeOf, typeInfo, hi, hs.len, hsc]
    · have hr := run_append_grow_src (P := P) w T T ty E i z ht hi hz none 0 0 [] (run_firstCells_none w.drew i.size 0 0 0) x n news hs1 (by omega) (by unfold maxLen at h63; simp at h63 ⊢; omega) (growslice_fits (by omega) (by simpa using hlen))
      have hq := grown 0 (by simp; omega)
      simp only [List.length_nil, Nat.zero_add] at hr hq ⊢
      exact ⟨_, _, hr, hq, hbl _, hgr _ _, .inr rfl⟩
  · by_cases hr0 : xs.length + n ≤ cap
    · have hr := run_append_room_src (P := P) w T T ty E i ht hi g o xs.length cap x n news hs1 hr0 (fun j hj => by rw [h1, Nat.mul_one, Nat.add_assoc]; exact (hroom (xs.length + j) (by omega)).1) (fun j hj => by rw [h1, Nat.mul_one, Nat.add_assoc]; exact (hroom (xs.length + j) (by omega)).2)
      rw [h1, Nat.mul_one] at hr
      refine ⟨_, _, hr, .inr ⟨g, o, cap, by rw [List.length_append, hn], hg, by rw [size_setCells]; exact hgl, by rw [List.length_append, hn]; exact hr0, fun j hj => ⟨?_, ?_⟩, fun j u hu => ?_⟩, below_setCells _ _ _ _ hg hgl, gb_setCells _ _ _ _ hgl, .inl rfl⟩
      · exact World.isSome_setCells g news (o + xs.length) w _ (hroom j hj).1
      · rw [World.frozen?_setCells]; exact (hroom j hj).2
      · by_cases hj : j < xs.length
        · rw [List.getElem?_append_left hj] at hu
          rw [World.cell?_setCells_out g news (o + xs.length) w _ (fun _ _ => .inl (by simp only; omega))]
          exact hcell j u hu
        · rw [List.getElem?_append_right (by omega)] at hu
          obtain ⟨hj2, hu⟩ := List.getElem?_eq_some_iff.1 hu
          have := World.cell?_setCells_in g news (o + xs.length) w (fun k hk => by rw [Nat.add_assoc]; exact (hroom (xs.length + k) (by omega)).1) (j - xs.length) hj2
          rw [show o + xs.length + (j - xs.length) = o + j by omega, hu] at this
          exact this
    · have hr := run_append_grow_src (P := P) w T T ty E i z ht hi hz (some ⟨g, o, none⟩) xs.length cap xs (run_firstCells_some w.drew i.size xs.length ⟨g, o, none⟩ xs.length cap xs (by rw [h1, Nat.mul_one]) (fun j u hu => by rw [Addr.add_mid]; exact hcell j u hu)) x n news hs1 (by omega) (by unfold maxLen at h63; omega) (growslice_fits (by omega) hlen)
      exact ⟨_, _, hr, grown cap (by omega), hbl _, hgr _ _, .inr rfl⟩
end
section
variable {w : World}
theorem qu_append_step2 {ops : Array Oper} {o : Oper} {a : Act} {K : Act → World → Prop} {Q : Exit → Act → World → Prop} {F : Prop} (hgd : o.guard = none) (s x : Operand) (T : Nat)
    (ho : o.op = .call { callee := .builtin .append, args := #[s, x], argTypes := #[T, T] })
    (B E : Nat) (z : Value) (bytes : Nat) (ht : Tryd.prog.underlying T = some (.slice E)) (hinfo : (Tryd.prog.info? E).map (fun i => (i.zero, i.size, i.bytes)) = some (some z, 1, bytes)) (hzs : z.cells.size = 1)
    (v : Value) (xs : List Value) (hs : a.eval s = v) (hv : Qu w B v xs)
    (y : Value) (news : List Value) (hx : a.eval x = y) (hsrc : Src Tryd.prog 1 T y news.length news w)
    (hlen : (xs.length + news.length) * bytes ≤ 1000000000000) (hlen2 : xs.length + news.length ≤ 1000000000000) (hbase : B ≤ w.heap.size)
    (h : ∀ v' w', Qu w' B v' (xs ++ news) → Below B w w' → w.grownBy w' v.ownBlock → (v'.ownBlock = v.ownBlock ∨ v'.ownBlock = some w.heap.size) → K (a.put o.dst v') w') :
    if Region.wanted o (yielded ops a.tmps) = true then Oper.wp Tryd.prog o a w K Q else F := by
  have hw : Region.wanted o (yielded ops a.tmps) = true := by simp [Region.wanted, hgd]
  rw [if_pos hw]
  obtain ⟨i, hi, hz0, hz1, hz2⟩ := info_parts hinfo
  obtain ⟨v', w', hr, h2, h3, h4, h5⟩ := qu_append2 (P := Tryd.prog) (ty := o.type) hv ht hi hz0 hz1 hzs hsrc (by rw [hz2]; omega) (by unfold maxLen; omega) hbase
  unfold Oper.wp execOp
  simp only [ho, resolve, invoke, builtin, Sem.run_bind, Sem.run_pure, Result.andThen_ok, List.map_toArray, List.map_cons, List.map_nil, hs, hx, hr]
  exact h v' w' h2 h3 h4 h5
end
theorem Ch.of_row {C mb : Nat} {ob : Option Nat} {w w' : World} (h : w.grownBy w' ob) : Ch C mb ob w w' := ⟨h.os, h.tape, h.output, h.size, fun k hk _ _ h3 => h.block k hk h3⟩
theorem Ch.of_set {C mb : Nat} {ob : Option Nat} {w : World} (j : Nat) (v : Value) : Ch C mb ob w (w.setCell ⟨C, j, none⟩ v) := ⟨rfl, rfl, rfl, by simp [World.setCell], fun _ _ h1 _ _ => Below.heap_setCell _ _ _ _ h1⟩
/-- What is seen, cut back. -/
theorem Qu.cut {w : World} {B n cap : Nat} {a : Option Addr} {xs ys : List ByteArray} (h : Qu w B (.slice a n cap) ((xs ++ ys).map Value.string)) : Qu w B (.slice a xs.length cap) (xs.map Value.string) := by
  rcases h with ⟨e, h0⟩ | ⟨g, o, cp, e, h1, h2, h3, h4, h5⟩
  · simp only [Value.slice.injEq] at e
    obtain ⟨rfl, rfl, rfl⟩ := e
    have hx : xs = [] := by
      cases xs with
      | nil => rfl
      | cons _ _ => cases h0
    subst hx
    exact .inl ⟨rfl, rfl⟩
  · simp only [Value.slice.injEq] at e
    obtain ⟨rfl, rfl, rfl⟩ := e
    rw [List.map_append, List.length_append, List.length_map] at h3
    refine .inr ⟨g, o, cap, by rw [List.length_map], h1, h2, by rw [List.length_map]; omega, h4, fun j u hu => h5 j u ?_⟩
    rw [List.map_append, List.getElem?_append_left ((List.getElem?_eq_some_iff.1 hu).1)]
    exact hu
theorem ob_same (a : Option Addr) (m n c d : Nat) : (Value.slice a m c).ownBlock = (Value.slice a n d).ownBlock := by cases a <;> rfl
theorem CK.cut {B C tb mb tn n m cap : Nat} {T M : ByteArray → Bool} {a : Option Addr} {xs ys : List ByteArray} {w : World} (h : CK B C tb mb tn n T M (.slice a m cap) (xs ++ ys) w) : CK B C tb mb tn n T M (.slice a xs.length cap) xs (w.setCell ⟨C, 2, none⟩ (.slice a xs.length cap)) := by
  have hcm := h.cm
  have s1 := h.s1
  have s2 := h.s2
  have s3 := h.s3
  rw [ob_same a m xs.length cap cap] at s1 s2 s3
  refine ⟨?_, h.ty.at_ (Below.heap_setCell _ _ _ _ (show tb ≠ C from fun e => hcm.2 e.symm)), h.nm.at_ (Below.heap_setCell _ _ _ _ (show mb ≠ C from fun e => hcm.1 e.symm)), h.sn.cut.row (by simp [World.setCell]) fun k e2 => Below.heap_setCell _ _ _ _ (fun e3 => s1 ?_), h.ne, h.hC, h.hm, s1, s2, s3⟩
  · have := h.c
    simp [World.setCell, Array.getElem?_modify, this]
  · rw [e3] at e2
    exact e2
end Go.Proofs.YtpnjlmpamincoaaDoor.Tm
