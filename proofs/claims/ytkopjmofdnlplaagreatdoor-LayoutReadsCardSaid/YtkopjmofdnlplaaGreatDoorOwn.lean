/-
  PROVED HERE: slices of one-cell elements that a call owns, what they hold, and append, string(b), s[i] over them, over any program. Conditions: as each theorem states.
-/
import Derived.Test.YtkopjmofdnlplaaGreatDoorMem
import Derived.Deep.OwnRows
import Derived.Deep.AppendLies
import Derived.Deep.DrawnRows
import Derived.Deep.MidRow
import Derived.StillTailTactics
import Derived.ChangeOld
import Derived.ChangeSlices
namespace Go.Proofs.YtkopjmofdnlplaaGreatDoor
open Go.RowKit

/-- The slice v, of the call's own (in a block from B on), holds the values xs, each of one cell. -/
def Own (w : World) (B E : Nat) (v : Value) (xs : List Value) : Prop := w.ownsRow B E 1 v xs.length xs
/-- Bytes as values. -/
def u8s (l : List UInt8) : List Value := l.map fun c => .int .u8 (c.toNat : Int)
def i64s (l : List Int) : List Value := l.map (Value.int .i64)
theorem u8s_len (l : List UInt8) : (u8s l).length = l.length := by simp [u8s]
theorem i64s_len (l : List Int) : (i64s l).length = l.length := by simp [i64s]
theorem u8s_snoc (l : List UInt8) (c : UInt8) : u8s l ++ [.int .u8 (c.toNat : Int)] = u8s (l ++ [c]) := by simp [u8s]
theorem i64s_snoc (l : List Int) (c : Int) : i64s l ++ [.int .i64 c] = i64s (l ++ [c]) := by simp [i64s]
theorem own_nil (w : World) (B E : Nat) : Own w B E (.slice none 0 0) [] := World.ownsRow_nil w B E 1
/-- The value's form. -/
theorem Own.form {w : World} {B E : Nat} {v : Value} {xs : List Value} (h : Own w B E v xs) :
    (v = .slice none 0 0 ∧ xs = []) ∨ ∃ g cap, v = .slice (some ⟨g, 0, none⟩) xs.length cap ∧ B ≤ g ∧ g < w.heap.size ∧ (∀ j (hj : j < xs.length), w.cell? ⟨g, j, none⟩ = some xs[j]) ∧ ∀ j, w.frozen? ⟨g, j, none⟩ = false := by
  have h' := h
  rcases h.2 with ⟨rfl, h0⟩ | ⟨g, cap, cur, rfl, hb, hg, _⟩
  · exact .inl ⟨rfl, List.eq_nil_of_length_eq_zero h0⟩
  · refine .inr ⟨g, cap, rfl, hb, (Array.getElem?_eq_some_iff.1 hg).1, fun j hj => ?_, fun j => World.ownsRow.frozenAt h' j⟩
    rw [World.ownsRow.cellAt h' j (by omega)]
    exact List.getElem?_eq_getElem hj
theorem Own.keep {w w' : World} {B E : Nat} {v : Value} {xs : List Value} (h : Own w B E v xs) {row : Option Nat} (hg : w.grownBy w' row) (hne : v.ownBlock = none ∨ v.ownBlock ≠ row) : Own w' B E v xs := World.ownsRow.kept h hg hne
theorem Own.alloc {w : World} {B E : Nat} {v : Value} {xs : List Value} (h : Own w B E v xs) (o : Obj) : Own (w.alloc o) B E v xs := World.ownsRow.alloc h o
theorem Own.drew {w : World} {B E : Nat} {v : Value} {xs : List Value} (h : Own w B E v xs) : Own w.drew B E v xs := h
theorem Own.drewN {w : World} {B E : Nat} {v : Value} {xs : List Value} (h : Own w B E v xs) (n : Nat) : Own (w.drewN n) B E v xs := h
theorem Own.lt {w : World} {B E : Nat} {v : Value} {xs : List Value} (h : Own w B E v xs) : ∀ k, v.ownBlock = some k → B ≤ k ∧ k < w.heap.size := World.ownsRow.lt h
theorem Own.below {w w' : World} {B E : Nat} {v : Value} {xs : List Value} (h : Own w B E v xs) (hb : Below w.heap.size w w') : Own w' B E v xs :=
  h.keep (row := none) ⟨hb.os, hb.tape, hb.output, hb.size, fun k hk _ => hb.block k hk⟩ (by cases v.ownBlock <;> simp)
theorem Own.base {w : World} {B B' E : Nat} {v : Value} {xs : List Value} (h : Own w B E v xs) (hB : B' ≤ B) : Own w B' E v xs := by
  refine ⟨h.1, ?_⟩
  rcases h.2 with hn | ⟨g, cap, cur, rfl, hb, rest⟩
  · exact .inl hn
  · exact .inr ⟨g, cap, cur, rfl, Nat.le_trans hB hb, rest⟩
theorem Own.set {w : World} {B E g n cap : Nat} {xs : List Value} (h : Own w B E (.slice (some ⟨g, 0, none⟩) n cap) xs) (j : Nat) (u : Value) : Own (w.setCell ⟨g, j, none⟩ u) B E (.slice (some ⟨g, 0, none⟩) n cap) (xs.set j u) := by
  have hn : n = xs.length := by
    rcases h.2 with ⟨h', _⟩ | ⟨g', cap', cur, h', _⟩
    · simp at h'
    · simp only [Value.slice.injEq] at h'; exact h'.2.1
  subst hn
  unfold Own
  rw [List.length_set]
  exact (World.ownsRow.stored h j u).1
theorem Own.len {w : World} {B E : Nat} {v : Value} {xs : List Value} (h : Own w B E v xs) : ∃ a cap, v = .slice a xs.length cap := by
  rcases h.form with ⟨rfl, rfl⟩ | ⟨g, cap, rfl, _⟩
  · exact ⟨_, _, rfl⟩
  · exact ⟨_, _, rfl⟩
theorem u8s_get (l : List UInt8) (j : Nat) (h : j < (u8s l).length) : (u8s l)[j] = .int .u8 ((l.getD j 0).toNat : Int) := by
  have h' : j < l.length := by simpa [u8s] using h
  simp [u8s, List.getD_eq_getElem?_getD, h']
theorem i64s_get (l : List Int) (j : Nat) (h : j < (i64s l).length) : (i64s l)[j] = .int .i64 (l.getD j 0) := by
  have h' : j < l.length := by simpa [i64s] using h
  simp [i64s, List.getD_eq_getElem?_getD, h']
theorem u8s_set (l : List UInt8) (j : Nat) (c : UInt8) : (u8s l).set j (.int .u8 (c.toNat : Int)) = u8s (l.set j c) := by simp [u8s, List.map_set]
theorem i64s_set (l : List Int) (j : Nat) (c : Int) : (i64s l).set j (.int .i64 c) = i64s (l.set j c) := by simp [i64s, List.map_set]
theorem new_cell (w : World) (u : Value) (E : Nat) : (w.alloc (.cells #[u] E)).cell? ⟨w.heap.size, 0, none⟩ = some u := by
  rw [World.cell?_alloc_new]; rfl
theorem le_alloc {B : Nat} {w : World} (h : B ≤ w.heap.size) (o : Obj) : B ≤ (w.alloc o).heap.size := by simp; omega
theorem below_append {B : Nat} {W w w1 : World} (h : Below B W w) (o : Obj) (hB : B ≤ w.heap.size) (hb : Below B (w.alloc o) w1) : Below B W w1 := (h.alloc hB o).trans hb
theorem str_full (s : ByteArray) (h : 1 ≤ s.size) : s.toList.isEmpty = false := by
  rw [ByteArray.toList_eq]
  have e : s.data.toList.length = s.size := rfl
  cases hl : s.data.toList with
  | nil => rw [hl] at e; simp at e; omega
  | cons _ _ => rfl
theorem own_made (w : World) (B E cap : Nat) (cur : Array Value) (hB : B ≤ w.heap.size) (hm : cap ≤ 1000000000000) (hs : cur.size = cap) : Own (w.alloc (.cells cur E)) B E (.slice (some ⟨w.heap.size, 0, none⟩) 0 cap) [] :=
  World.ownsRow_made w cur cap hB (by unfold maxLen; omega) (by omega)
theorem own_full (w : World) (B E n : Nat) (z : Value) (hB : B ≤ w.heap.size) (hm : n ≤ 1000000000000) : Own (w.alloc (.cells (madeCells #[z] n) E)) B E (.slice (some ⟨w.heap.size, 0, none⟩) n n) (List.replicate n z) := by
  have h := World.ownsRow_lit (base := B) (e := E) (size := 1) w (madeCells #[z] n) n hB (by unfold maxLen; omega) (by rw [size_madeCells]; omega)
  rw [toList_madeCells_one] at h
  unfold Own
  rw [List.length_replicate]
  exact h
theorem Own.setBelow {w : World} {B E : Nat} {v : Value} {xs : List Value} (h : Own w B E v xs) {a : Addr} (ha : a.block < B) (u : Value) : Own (w.setCell a u) B E v xs := ownsRow_setCell_below h ha u
theorem Own.at_ {w : World} {B E : Nat} {a : Option Addr} {n c : Nat} {xs : List Value} (h : Own w B E (.slice a n c) xs) (j : Nat) (hj : j < xs.length) : ∃ g, a = some ⟨g, 0, none⟩ ∧ w.cell? ⟨g, j, none⟩ = some xs[j] := by
  rcases h.form with ⟨_, h0⟩ | ⟨g, cap, e, _, _, hc, _⟩
  · subst h0; exact absurd hj (Nat.not_lt_zero j)
  · simp only [Value.slice.injEq] at e
    exact ⟨g, e.1, hc j hj⟩
theorem oneCell_u8 (c : Int) : (Value.int .u8 c).oneCell' = true := rfl

section
variable {P : Program} {w : World}
/-- append of elements that lie in memory, onto a slice of the call's own. -/
theorem own_append {ops : Array Oper} {rest : List Oper} {o : Oper} {a : Act} {Q : Exit → Act → World → Prop} (hgd : o.guard = none) (s x : Operand) (t : TypeId)
    (ho : o.op = .call { callee := .builtin .append, args := #[s, x], argTypes := #[t, t] })
    (B E : Nat) (z : Value) (bytes : Nat) (ht : P.underlying t = some (.slice E)) (hinfo : (P.info? E).map (fun i => (i.zero, i.size, i.bytes)) = some (some z, 1, bytes)) (hzs : z.cells.size = 1)
    (v : Value) (xs : List Value) (hs : a.eval s = v) (hown : Own w B E v xs)
    (ad : Addr) (m c : Nat) (news : List Value) (hx : a.eval x = .slice (some ad) m c) (hl : news.length = m) (hnews : ∀ j u, news[j]? = some u → w.cell? (ad.add j) = some u) (h1 : ∀ u ∈ news, u.oneCell' = true)
    (hlen : (xs.length + m) * bytes ≤ 1000000000000) (hlen2 : xs.length + m ≤ 1000000000000) (hbase : B ≤ w.heap.size)
    (h : ∀ v' w', Own w' B E v' (xs ++ news) → w.grownBy w' v.ownBlock → Below B w w' → (v'.ownBlock = v.ownBlock ∨ v'.ownBlock = some w.heap.size) → wpList P ops Q rest (a.put o.dst v') w') : wpList P ops Q (o :: rest) a w := by
  obtain ⟨i, hi, hz0, hz1, hz2⟩ := info_parts hinfo
  refine wpList_append_own_at w hgd s x t ho B E i z 1 bytes ht hi hz0 hz1 hz2 hzs (by decide) v xs.length xs hs hown ad m c news hx (by omega) hnews h1 (by unfold maxLen; omega) (by omega) hbase ?_
  intro v' w' h2 h3 _ h5
  refine h v' w' ?_ h3 ((Below.refl B w).grown h3 hbase (fun k hk => (World.ownsRow.lt hown k hk).1)) h5
  unfold Own
  rw [List.length_append, hl]
  exact h2
/-- append of one element, which was laid into a block of its own (the last one). -/
theorem own_append1 {ops : Array Oper} {rest : List Oper} {o : Oper} {a : Act} {Q : Exit → Act → World → Prop} (hgd : o.guard = none) (s x : Operand) (t : TypeId)
    (ho : o.op = .call { callee := .builtin .append, args := #[s, x], argTypes := #[t, t] })
    (B E : Nat) (z : Value) (bytes : Nat) (ht : P.underlying t = some (.slice E)) (hinfo : (P.info? E).map (fun i => (i.zero, i.size, i.bytes)) = some (some z, 1, bytes)) (hzs : z.cells.size = 1)
    (v : Value) (xs : List Value) (hs : a.eval s = v) (hown : Own w B E v xs)
    (g c : Nat) (u : Value) (hx : a.eval x = .slice (some ⟨g, 0, none⟩) 1 c) (hnew : w.cell? ⟨g, 0, none⟩ = some u) (h1 : u.oneCell' = true)
    (hlen : (xs.length + 1) * bytes ≤ 1000000000000) (hlen2 : xs.length + 1 ≤ 1000000000000) (hbase : B ≤ w.heap.size)
    (h : ∀ v' w', Own w' B E v' (xs ++ [u]) → w.grownBy w' v.ownBlock → Below B w w' → (v'.ownBlock = v.ownBlock ∨ v'.ownBlock = some w.heap.size) → wpList P ops Q rest (a.put o.dst v') w') : wpList P ops Q (o :: rest) a w :=
  own_append hgd s x t ho B E z bytes ht hinfo hzs v xs hs hown ⟨g, 0, none⟩ 1 c [u] hx rfl (fun j u' hj => by
    rcases j with _ | j
    · simp at hj; subst hj; rw [Addr.add_mid]; exact hnew
    · simp at hj) (fun u' hu => by rw [List.mem_singleton.1 hu]; exact h1) hlen hlen2 hbase h
/-- make([]E, 0, c). -/
theorem run_make0 (t E : TypeId) (z : Value) (bytes : Nat) (ht : P.underlying t = some (.slice E)) (hinfo : (P.info? E).map (fun i => (i.zero, i.size, i.bytes)) = some (some z, 1, bytes)) (hz1 : z.cells = #[z])
    (kl kc : IntKind) (c : Int) (h0 : 0 ≤ c) (hb : (bytes : Int) * c ≤ 281474976710656) (h63 : c ≤ 9223372036854775807) (w : World) :
    (Instr.makeSlice t (.int kl 0) (.int kc c)).run P w = .ok (.slice (some ⟨w.heap.size, 0, none⟩) 0 c.toNat) (w.alloc (.cells (madeCells #[z] c.toNat) E)) := by
  obtain ⟨i, hi, hzz⟩ := Option.map_eq_some_iff.1 hinfo
  simp only [Prod.mk.injEq] at hzz
  obtain ⟨hz, hs, hbb⟩ := hzz
  have := run_make (P := P) w t E i z ht hi hz kl kc 0 c (Int.le_refl _) h0 (by rw [hbb]; exact hb) h63
  rw [hs, hz1, Nat.mul_one] at this
  exact this
/-- append, at a step of a region that draws its order. -/
theorem own_append_step {ops : Array Oper} {o : Oper} {a : Act} {K : Act → World → Prop} {Q : Exit → Act → World → Prop} {F : Prop} (hgd : o.guard = none) (s x : Operand) (t : TypeId)
    (ho : o.op = .call { callee := .builtin .append, args := #[s, x], argTypes := #[t, t] })
    (B E : Nat) (z : Value) (bytes : Nat) (ht : P.underlying t = some (.slice E)) (hinfo : (P.info? E).map (fun i => (i.zero, i.size, i.bytes)) = some (some z, 1, bytes)) (hzs : z.cells.size = 1)
    (v : Value) (xs : List Value) (hs : a.eval s = v) (hown : Own w B E v xs)
    (ad : Addr) (m c : Nat) (news : List Value) (hx : a.eval x = .slice (some ad) m c) (hl : news.length = m) (hnews : ∀ j u, news[j]? = some u → w.cell? (ad.add j) = some u) (h1 : ∀ u ∈ news, u.oneCell' = true)
    (hlen : (xs.length + m) * bytes ≤ 1000000000000) (hlen2 : xs.length + m ≤ 1000000000000) (hbase : B ≤ w.heap.size)
    (h : ∀ v' w', Own w' B E v' (xs ++ news) → w.grownBy w' v.ownBlock → Below B w w' → (v'.ownBlock = v.ownBlock ∨ v'.ownBlock = some w.heap.size) → K (a.put o.dst v') w') :
    if Region.wanted o (yielded ops a.tmps) = true then Oper.wp P o a w K Q else F := by
  have hw : Region.wanted o (yielded ops a.tmps) = true := by simp [Region.wanted, hgd]
  rw [if_pos hw]
  obtain ⟨i, hi, hz0, hz1, hz2⟩ := info_parts hinfo
  obtain ⟨v', w', hr, h2, h3, _, h5⟩ := run_append_own_at (P := P) w B t o.type E i z 1 bytes ht hi hz0 hz1 hz2 hzs (by decide) v xs.length xs hown ad m c news (by omega) hnews h1 (by unfold maxLen; omega) (by omega) hbase
  unfold Oper.wp execOp
  simp only [ho, resolve, invoke, builtin, Sem.run_bind, Sem.run_pure, Result.andThen_ok, List.map_toArray, List.map_cons, List.map_nil, hs, hx, hr]
  refine h v' w' ?_ h3 ((Below.refl B w).grown h3 hbase (fun k hk => (World.ownsRow.lt hown k hk).1)) h5
  unfold Own
  rw [List.length_append, hl]
  exact h2
/-- A contract's frame, said from an elder world on. -/
theorem since {f : FuncId} {args : Array Value} {R : Ending} {W : World} (hB : Below W.heap.size W w) (h : Calls P f args w fun e w' => e = R ∧ Below w.heap.size w w') : Calls P f args w fun e w' => e = R ∧ Below W.heap.size W w' :=
  h.mono fun _ _ ⟨a, b⟩ => ⟨a, hB.trans (b.mono hB.size)⟩
theorem keepCell {w1 : World} {a : Addr} {x : Value} (hb : Below w.heap.size w w1) (h : w.cell? a = some x) : w1.cell? a = some x := (hb.cell (World.block_lt_of_cell? w a h)).trans h
theorem keepFree {w1 : World} {a : Addr} {x : Value} {f : Bool} (hb : Below w.heap.size w w1) (h : w.cell? a = some x) (hf : w.frozen? a = f) : w1.frozen? a = f := (hb.frozen (World.block_lt_of_cell? w a h)).trans hf
/-- string(b). -/
theorem own_string {B E T S : Nat} {v : Value} {l : List UInt8} (h : Own w B E v (u8s l)) (hs : P.underlying T = some (.slice E)) (he : P.underlying E = some (.int .u8)) (hd : P.underlying S = some .string) :
    (convert T S v).run P w = .ok (.string ⟨l.toArray⟩) w := by
  rcases h.form with ⟨rfl, h0⟩ | ⟨g, cap, rfl, _, _, hc, _⟩
  · have hl : l = [] := by cases l with
      | nil => rfl
      | cons _ _ => simp [u8s] at h0
    subst hl
    rw [run_convert_bytes_string w T S E none 0 0 hs he hd]
    rfl
  · rw [u8s_len]
    exact run_convert_bytes_back w T S E ⟨g, 0, none⟩ cap l hs he hd (fun j hj => by
      have := hc j (by rw [u8s_len]; exact hj)
      rw [Addr.add_mid, Nat.zero_add, this]
      simp [u8s])
end

/-- The slice v shows the numbers l: nil, empty, or in cells of memory. -/
def Ints (w : World) (v : Value) (l : List Int) : Prop :=
  ∃ a cap, v = .slice a l.length cap ∧ ∀ j (h : j < l.length), ∃ ad, a = some ad ∧ w.cell? (ad.add j) = some (.int .i64 l[j])
theorem Own.ints {w : World} {B E : Nat} {v : Value} {l : List Int} (h : Own w B E v (i64s l)) : Ints w v l := by
  rcases h.form with ⟨rfl, h0⟩ | ⟨g, cap, rfl, _, _, hc, _⟩
  · have hl : l = [] := by cases l with
      | nil => rfl
      | cons _ _ => simp [i64s] at h0
    subst hl
    exact ⟨none, 0, rfl, fun j hj => absurd hj (Nat.not_lt_zero j)⟩
  · refine ⟨_, cap, by rw [i64s_len], fun j hj => ⟨_, rfl, ?_⟩⟩
    rw [Addr.add_mid, Nat.zero_add, hc j (by rw [i64s_len]; exact hj)]
    simp [i64s]
theorem Ints.below {w w' : World} {v : Value} {l : List Int} (h : Ints w v l) (hb : Below w.heap.size w w') : Ints w' v l := by
  obtain ⟨a, cap, e, hc⟩ := h
  refine ⟨a, cap, e, fun j hj => ?_⟩
  obtain ⟨ad, h1, h2⟩ := hc j hj
  exact ⟨ad, h1, (hb.cell (p := ad.add j) (World.block_lt_of_cell? w _ h2)).trans h2⟩
theorem Ints.drewN {w : World} {v : Value} {l : List Int} (h : Ints w v l) (n : Nat) : Ints (w.drewN n) v l := h
theorem Ints.drew {w : World} {v : Value} {l : List Int} (h : Ints w v l) : Ints w.drew v l := h
/-- The value written out: an address where there is an element. -/
theorem Ints.form {w : World} {v : Value} {l : List Int} (h : Ints w v l) : (∃ a cap, v = .slice a 0 cap ∧ l = []) ∨ ∃ ad cap, v = .slice (some ad) l.length cap ∧ ∀ j (h : j < l.length), w.cell? (ad.add j) = some (.int .i64 l[j]) := by
  obtain ⟨a, cap, e, hc⟩ := h
  cases l with
  | nil => exact .inl ⟨a, cap, e, rfl⟩
  | cons x xs =>
    obtain ⟨ad, h1, _⟩ := hc 0 (by simp)
    subst h1
    exact .inr ⟨ad, cap, e, fun j hj => by obtain ⟨ad', h1, h2⟩ := hc j hj; rw [Option.some.inj h1]; exact h2⟩
section
open Go.WideShapes Go.ChangeShapes
variable {H : Type} {enc : TypeId × Value → H} {P : Program}
/-- An argument of type []int, as numbers. -/
theorem ints_of_trod {W : World} {sp : Nat → Bool} {held : Bool} {t e : TypeId} (ht : P.underlying t = some (.slice e)) (he : P.underlying e = some (.int .i64)) (hc : P.cellsOf e = 1) {a : Option Addr} {len cap : Nat} {d : DataW H} {p : List MemPlace}
    (h : DataW.Trod enc P W 0 sp held t (.slice a len cap) d p) : ∃ l : List Int, l.length = len ∧ Ints W (.slice a len cap) l ∧ ∀ x ∈ l, -9223372036854775808 ≤ x ∧ x ≤ 9223372036854775807 := by
  obtain ⟨f, hf⟩ := h
  rcases open_ints ht he hc hf with ⟨hcs, _⟩ | ⟨ad, len', cap', zs, hcs, _, hl, _, hz, _, hcell, hwz⟩
  · simp [Value.cells] at hcs
    obtain ⟨rfl, rfl, rfl⟩ := hcs
    exact ⟨[], rfl, ⟨none, 0, rfl, fun j hj => absurd hj (Nat.not_lt_zero j)⟩, fun x hx => by cases hx⟩
  · simp [Value.cells] at hcs
    obtain ⟨rfl, rfl, rfl⟩ := hcs
    have hzl : len ≤ zs.length := by rw [hz]; split <;> omega
    refine ⟨zs.take len, by simp; omega, ⟨some ad, cap, ?_, fun j hj => ⟨ad, rfl, ?_⟩⟩, fun x hx => ?_⟩
    · congr 1
      simp; omega
    · have hj' : j < len := by simp at hj; omega
      rw [hcell j (by omega)]
      simp [List.getD_eq_getElem?_getD, show j < zs.length by omega]
    · exact bounds_i64 (hwz x (List.mem_of_mem_take hx))
end
end Go.Proofs.YtkopjmofdnlplaaGreatDoor
