/-
  PROVED HERE: the law PieceEdits returns true. Conditions: as each theorem states.
-/
import Derived.Test.YtfckhkpheahgaaaDoorPcM
import Derived.Test.YtfckhkpheahgaaaDoorErrB
import Derived.Deep.DeepCutAuto
import Derived.Deep.CutBlock
import Derived.Deep.RegionWith
import Derived.Deep.RegionHeld3
namespace Go.Proofs.YtfckhkpheahgaaaDoor.Pc
open Go.RowKit
theorem own_lit (w : World) (B E : Nat) (x : Value) (h : B ≤ w.heap.size) : Own (w.alloc (.cells #[x] E)) B E (.slice (some ⟨w.heap.size, 0, none⟩) 1 1) [x] :=
  ⟨rfl, .inr ⟨w.heap.size, 1, #[x], rfl, h, heap_alloc_new w _, Nat.le_refl _, by unfold maxLen; omega, rfl, rfl⟩⟩
/-- What loop 1 holds. -/
def St (W wr : World) (v u : Value) (L : List (ByteArray × Option Addr)) : Prop :=
  Two W wr W.heap.size 9 26 v (strs L) u (ptrs L) none none ∧ Alls wr L ∧ 1 ≤ L.length ∧ Snug v L.length
theorem St.below {W w w' : World} {v u : Value} {L : List (ByteArray × Option Addr)} (h : St W w v u L) (hb : Below w.heap.size w w') : St W w' v u L :=
  ⟨h.1.below hb, h.2.1.below hb, h.2.2⟩
theorem St.bw {W w : World} {v u : Value} {L : List (ByteArray × Option Addr)} (h : St W w v u L) : Below W.heap.size W w := h.1.2.2.2.2.1
theorem St.len1 {W w : World} {v u : Value} {L : List (ByteArray × Option Addr)} (h : St W w v u L) : ∃ a cap, v = .slice a L.length cap := by
  have := h.1.1.len; rw [strs_len] at this; exact this
theorem St.len2 {W w : World} {v u : Value} {L : List (ByteArray × Option Addr)} (h : St W w v u L) : ∃ a cap, u = .slice a L.length cap := by
  have := h.1.2.1.len; rw [ptrs_len] at this; exact this
theorem law_start (W w1 : World) (s : ByteArray) (p : Option Addr) (hs : s.size ≤ 300) (hb : Below (W.heap.size + 1) (W.alloc (.cells #[.string s] 9)) w1) (hh : Has w1 (.pointer p) (lst s)) :
    St W (w1.alloc (.cells #[.pointer p] 26)) (.slice (some ⟨W.heap.size, 0, none⟩) 1 1) (.slice (some ⟨w1.heap.size, 0, none⟩) 1 1) [(s, p)] := by
  have hz := hb.size
  simp only [World.size_alloc] at hz
  have h1 : Own w1 W.heap.size 9 (.slice (some ⟨W.heap.size, 0, none⟩) 1 1) [.string s] := (own_lit W W.heap.size _ _ (Nat.le_refl _)).below (by simpa using hb)
  have hbw : Below W.heap.size W w1 := ((Below.refl _ W).alloc (Nat.le_refl _) _).trans (hb.mono (by omega))
  refine ⟨⟨h1.alloc _, own_lit w1 W.heap.size _ _ (by omega), fun k e e' => ?_, by simp; omega, hbw.alloc (by omega) _, trivial, trivial⟩, fun z hz => ?_, Nat.le_refl _, fun _ => ⟨_, rfl⟩⟩
  · simp [Value.ownBlock] at e e'
    omega
  · obtain rfl := List.mem_singleton.1 hz
    exact ⟨hh.below ((Below.refl _ _).alloc (Nat.le_refl _) _), by simp only; omega⟩
/-- Which text is edited. -/
theorem which (of : Int) (n : Nat) (h : 1 ≤ n) (hn : n ≤ 100) : ∃ j : Nat, j < n ∧ IntKind.u64.wrap (n : Int) = n ∧ IntKind.i64.wrap ((IntKind.u64.wrap of).tmod (n : Int)) = (j : Int) ∧ (n : Int) ≠ 0 := by
  have h1 : IntKind.u64.wrap (n : Int) = n := IntWalk.u64_in _ (by omega)
  have h0 : 0 ≤ IntKind.u64.wrap of := by rw [IntKind.wrap_u64]; omega
  have h2 : (IntKind.u64.wrap of).tmod (n : Int) = IntKind.u64.wrap of % (n : Int) := Int.tmod_eq_emod_of_nonneg h0
  have h3 : 0 ≤ IntKind.u64.wrap of % (n : Int) := Int.emod_nonneg _ (by omega)
  have h4 : IntKind.u64.wrap of % (n : Int) < n := Int.emod_lt_of_pos _ (by omega)
  obtain ⟨j, hj⟩ := Int.eq_ofNat_of_zero_le h3
  refine ⟨j, by omega, h1, ?_, by omega⟩
  rw [h2, hj, IntWalk.i64_in _ (by omega)]
theorem apart_new {W w : World} {v u : Value} {L : List (ByteArray × Option Addr)} (h : St W w v u L) : some w.heap.size ≠ v.ownBlock ∧ some w.heap.size ≠ u.ownBlock :=
  ⟨fun e => absurd (h.1.1.lt _ e.symm).2 (Nat.lt_irrefl _), fun e => absurd (h.1.2.1.lt _ e.symm).2 (Nat.lt_irrefl _)⟩
def ecode (x : List UInt8) (a o : Int) (s : ByteArray) : Int := if a < 0 ∨ o < 0 ∨ ((x.length : Nat) : Int) - o < a then 2 else if 4000 < x.length - o + s.size then 12 else 0
def enew (x : List UInt8) (a o : Int) (s : ByteArray) : List UInt8 := if ecode x a o s = 0 then x.take a.toNat ++ lst s ++ x.drop (a.toNat + o.toNat) else []
theorem edit_all (w : World) (p : Option Addr) (x : List UInt8) (a o : Int) (s : ByteArray) (h : Has w (.pointer p) x) (hx : x.length ≤ 4000) (ho : I64 o) :
    Calls Tryd.prog 5 #[.agg #[.pointer p], .int .i64 a, .int .i64 o, .string s] w (EditP (enew x a o s) (ecode x a o s) w) := by
  by_cases h1 : a < 0 ∨ o < 0 ∨ ((x.length : Nat) : Int) - o < a
  · have e1 : ecode x a o s = 2 := if_pos h1
    have e2 : enew x a o s = [] := if_neg (by rw [e1]; decide)
    rw [e1, e2]
    exact edit_range w p x a o s h hx h1 ho
  · by_cases h2 : 4000 < x.length - o + s.size
    · have e1 : ecode x a o s = 12 := (if_neg h1).trans (if_pos h2)
      have e2 : enew x a o s = [] := if_neg (by rw [e1]; decide)
      rw [e1, e2]
      exact edit_full w p x a o s h hx (by omega) (by omega) (by omega) h2
    · have e1 : ecode x a o s = 0 := (if_neg h1).trans (if_neg h2)
      have e2 : enew x a o s = x.take a.toNat ++ lst s ++ x.drop (a.toNat + o.toNat) := if_pos e1
      rw [e1, e2]
      exact edit_ok w p x a o s h hx (by omega) (by omega) (by omega) (by omega)
theorem alloc_hid {w w3 : World} (h : Hid (Below w.heap.size w w3)) {o : Obj} : Below w.heap.size w (w3.alloc o) := h.out.alloc h.out.size o
theorem set_hid {w w3 : World} (h : Hid (Below w.heap.size w w3)) {x : Value} {m : Nat} : Below w.heap.size w (w3.setCell ⟨w.heap.size, m, none⟩ x) := h.out.setCell (p := ⟨w.heap.size, m, none⟩) (Nat.le_refl _) x
theorem set_alloc_hid {w w3 : World} (h : Hid (Below w.heap.size w w3)) {o : Obj} {x : Value} {m : Nat} : Below w.heap.size w ((w3.alloc o).setCell ⟨w3.heap.size, m, none⟩ x) := (alloc_hid h).setCell (p := ⟨w3.heap.size, m, none⟩) h.out.size x
/-- What is behind the edit. -/
def After (wq w4 : World) (Y : Nat) (p3 : Option Addr) (nx : List UInt8) (v3 : Value) (c : Int) : Prop :=
  wq.heap.size ≤ Y ∧ Y < w4.heap.size ∧ w4.cell? ⟨Y, 0, none⟩ = some (.pointer p3) ∧ Has w4 (.pointer p3) nx ∧ Err.ErrIs w4 v3 c (-1) ∧ Below wq.heap.size wq w4
theorem after_store {wq w3 : World} {Y : Nat} {q p3 : Option Addr} {nx : List UInt8} {v3 : Value} {c : Int} (hY : wq.heap.size ≤ Y) (hc : w3.cell? ⟨Y, 0, none⟩ = some (.pointer q)) (hh : Has w3 (.pointer p3) nx) (hr : Err.ErrIs w3 v3 c (-1)) (hb : Below wq.heap.size wq w3) :
    After wq (w3.setCell ⟨Y, 0, none⟩ (.pointer p3)) Y p3 nx v3 c :=
  ⟨hY, by simp only [World.setCell, Array.size_modify]; exact World.block_lt_of_cell? w3 _ hc, World.cell?_setCell_same _ _ _ hc, hh.setCell hc _, errIs_setCell hr hc _, hb.setCell (p := ⟨Y, 0, none⟩) hY _⟩
theorem after_alloc {wq w3 : World} {p3 : Option Addr} {nx : List UInt8} {v3 : Value} {c : Int} {T : Nat} (hh : Has w3 (.pointer p3) nx) (hr : Err.ErrIs w3 v3 c (-1)) (hb : Below wq.heap.size wq w3) :
    After wq (w3.alloc (.cells #[.pointer p3] T)) w3.heap.size p3 nx v3 c :=
  have ha : Below w3.heap.size w3 (w3.alloc (.cells #[.pointer p3] T)) := (Below.refl _ _).alloc (Nat.le_refl _) _
  ⟨hb.size, by simp, new_cell _ _ _, hh.below ha, hr.below ha, hb.trans (ha.mono hb.size)⟩
theorem ecode_r {A : ByteArray} {pl out : Int} {t : ByteArray} (h : pl < 0 ∨ out < 0 ∨ ((A.size : Nat) : Int) - out < pl) : ecode (lst A) pl out t = 2 := if_pos h
theorem ecode_f {A : ByteArray} {pl out : Int} {t : ByteArray} (h : ¬ (pl < 0 ∨ out < 0 ∨ ((A.size : Nat) : Int) - out < pl)) (h2 : 4000 < ((A.size : Nat) : Int) - out + t.size) : ecode (lst A) pl out t = 12 := (if_neg h).trans (if_pos h2)
theorem ecode_o {A : ByteArray} {pl out : Int} {t : ByteArray} (h : ¬ (pl < 0 ∨ out < 0 ∨ ((A.size : Nat) : Int) - out < pl)) (h2 : ¬ 4000 < ((A.size : Nat) : Int) - out + t.size) : ecode (lst A) pl out t = 0 := (if_neg h).trans (if_neg h2)
theorem ecode_zero {A : ByteArray} {pl out : Int} {t : ByteArray} (h : ecode (lst A) pl out t = 0) : ¬ (pl < 0 ∨ out < 0 ∨ ((A.size : Nat) : Int) - out < pl) ∧ ¬ 4000 < ((A.size : Nat) : Int) - out + t.size := by
  by_cases h1 : pl < 0 ∨ out < 0 ∨ ((A.size : Nat) : Int) - out < pl
  · rw [ecode_r h1] at h; cases h
  · by_cases h2 : 4000 < ((A.size : Nat) : Int) - out + t.size
    · rw [ecode_f h1 h2] at h; cases h
    · exact ⟨h1, h2⟩
theorem lst_cut (A t : ByteArray) (n m : Nat) : lst (A.extract 0 n ++ t ++ A.extract m A.size) = (lst A).take n ++ lst t ++ (lst A).drop m := by
  have h1 : lst (A.extract 0 n) = (lst A).take n := by rw [lst_ext]; simp
  have h2 : lst (A.extract m A.size) = (lst A).drop m := by rw [lst_ext, ← lst_len, List.take_length]
  rw [← h1, ← h2]
  simp [lst]
theorem st_next {W w w7 : World} {v u v4 v5 : Value} {L : List (ByteArray × Option Addr)} {S : ByteArray} {p3 : Option Addr} (h : St W w v u L) (hh : Has w (.pointer p3) (lst S)) (hs : S.size ≤ 4000)
    (hT : Two W w7 W.heap.size 9 26 v4 (strs L ++ [.string S]) v5 (ptrs L ++ [.pointer p3]) none none) (hk : Kp w w7 v.ownBlock u.ownBlock) : St W w7 v4 v5 (L ++ [(S, p3)]) := by
  obtain ⟨h1, h2, h3, h4⟩ := h
  have n1 := noNode_strs h1.1 h3 h4
  have n2 := noNode_ptrs h1.2.1 h3
  rw [strs_snoc L S p3, ptrs_snoc L S p3] at hT
  exact ⟨hT, (h2.kp hk n1 n2).snoc (hh.kp hk n1 n2) hs, by simp, fun e => by rw [List.length_append] at e; simp only [List.length_cons, List.length_nil] at e; omega⟩
theorem apart_old {W w : World} {v u : Value} {L : List (ByteArray × Option Addr)} (h : St W w v u L) {Y : Nat} (hY : w.heap.size ≤ Y) : some Y ≠ v.ownBlock ∧ some Y ≠ u.ownBlock :=
  ⟨fun e => by have := (h.1.1.lt _ e.symm).2; omega, fun e => by have := (h.1.2.1.lt _ e.symm).2; omega⟩
theorem str_lst (t : ByteArray) : (⟨(lst t).toArray⟩ : ByteArray) = t := by
  apply ByteArray.ext
  simp [lst]
theorem len_any' (w : World) (p : Option Addr) (A : ByteArray) (h : Has w (.pointer p) (lst A)) : Calls Tryd.prog 7 #[.agg #[.pointer p]] w fun e w' => e = .returned (.int .i64 (A.size : Nat)) ∧ Below w.heap.size w w' := len_any w p (lst A) h
theorem string_any' (w : World) (p : Option Addr) (A : ByteArray) (h : Has w (.pointer p) (lst A)) (hs : A.size ≤ 4000) : Calls Tryd.prog 8 #[.agg #[.pointer p]] w fun e w' => e = .returned (.string A) ∧ Below w.heap.size w w' := by
  have := string_any w p (lst A) h hs
  rw [str_lst] at this
  exact this
theorem slice_no' (w : World) (p : Option Addr) (A : ByteArray) (i j : Int) (h : Has w (.pointer p) (lst A)) (hr : i < 0 ∨ j < i ∨ ((A.size : Nat) : Int) < j) : Calls Tryd.prog 9 #[.agg #[.pointer p], .int .i64 i, .int .i64 j] w fun e w' => ∃ u, e = .returned (.tuple #[.string ⟨#[]⟩, u]) ∧ NErr u 2 ∧ Below w.heap.size w w' := slice_no w p (lst A) i j h hr
theorem slice_yes' (w : World) (p : Option Addr) (A : ByteArray) (i j : Nat) (h : Has w (.pointer p) (lst A)) (hs : A.size ≤ 4000) (hi : i ≤ j) (hj : j ≤ A.size) : Calls Tryd.prog 9 #[.agg #[.pointer p], .int .i64 (i : Int), .int .i64 (j : Int)] w fun e w' => ∃ u, e = .returned (.tuple #[.string (A.extract i j), u]) ∧ NErr u 0 ∧ Below w.heap.size w w' := by
  have := slice_yes w p (lst A) i j h hs hi hj
  rw [← List.drop_take, ← lst_ext] at this
  unfold SliceP at this
  rw [str_lst] at this
  exact this
theorem at_no' (w : World) (p : Option Addr) (A : ByteArray) (i : Int) (h : Has w (.pointer p) (lst A)) (hi : i < 0 ∨ ((A.size : Nat) : Int) ≤ i) : Calls Tryd.prog 10 #[.agg #[.pointer p], .int .i64 i] w fun e w' => ∃ u, e = .returned (.tuple #[.int .u8 0, u]) ∧ NErr u 2 ∧ Below w.heap.size w w' := at_no w p (lst A) i h hi
theorem at_yes' (w : World) (p : Option Addr) (A : ByteArray) (i : Nat) (h : Has w (.pointer p) (lst A)) (hs : A.size ≤ 4000) (hi : i < A.size) : Calls Tryd.prog 10 #[.agg #[.pointer p], .int .i64 (i : Int)] w fun e w' => ∃ u, e = .returned (.tuple #[.int .u8 (A[i].toNat : Int), u]) ∧ NErr u 0 ∧ Below w.heap.size w w' := by
  have := at_yes w p (lst A) i h hs hi
  rw [show (lst A).getD i 0 = A[i] by unfold List.getD; rw [List.getElem?_eq_getElem (by exact hi)]; rfl] at this
  exact this
def LRel (l : List Chg) (W : World) (v u i : Value) (wr : World) : Prop := ∃ (k : Nat) (L : List (ByteArray × Option Addr)), k ≤ l.length ∧ i = .int .i64 (k : Int) ∧ (∃ a c, v = .slice a L.length c) ∧ (∃ a c, u = .slice a L.length c) ∧ 1 ≤ L.length ∧ L.length ≤ k + 1 ∧ Hid (St W wr v u L)
set_option maxRecDepth 100000 in
set_option maxHeartbeats 8000000 in
theorem edits_walk (s : ByteArray) (v : Value) (l : List Chg) (from_ to_ : Int) (W : World) (hl : Chs W v l) (hg : Err.Home W) (hf : I64 from_) (ht : I64 to_) :
    Calls Tryd.prog 3 #[.string s, v, .int .i64 from_, .int .i64 to_] W fun e w' => e = .returned (.bool true) ∧ Below W.heap.size W w' := by
  have UH := Lib.hid hl
  have HG := Lib.hid hg
  obtain ⟨a, cap, rfl, -⟩ := hl
  clear hg
  by_cases h1 : 300 < s.size
  · go_enter Tryd.func3, Tryd.ntmps3
    go_wp2_with fail
    go_ret
    exact ⟨rfl, Below.refl _ _⟩
  by_cases h2 : 40 < l.length
  · go_enter Tryd.func3, Tryd.ntmps3
    go_wp2_with fail
    go_ret
    exact ⟨rfl, Below.refl _ _⟩
  have C0 := Lib.hid (of_any (W.alloc (.cells #[.string s] 9)) s (by omega))
  go_enter Tryd.func3, Tryd.ntmps3
  go_wp2_with fail
  refine C0.out.mono ?_; rintro e w1 ⟨p0, rfl, hp, hb1⟩
  have S0 := Lib.hid (law_start W w1 s p0 (by omega) (by simpa using hb1) hp)
  clear hp hb1
  go_wp2_with fail
  generalize w1.alloc (Obj.cells _ _) = w2 at *
  go_loopw [9, 10, 11] (LRel l W) (fun _ _ i _ => l.length - (intOf i).toNat)
  case atStart => exact ⟨0, _, Nat.zero_le _, rfl, S0.out.len1, S0.out.len2, Nat.le_refl _, Nat.le_refl _, S0⟩
  case round =>
    clear S0 C0
    obtain ⟨k, L, hk, rfl, ⟨a1, c1, rfl⟩, ⟨a2, c2, rfl⟩, hL1, hLk, hS⟩ := hrel
    by_cases hlt : k < l.length
    · obtain ⟨ad, rfl, x0, x1, x2, x3, x4⟩ := UH.out.at_ k hlt
      have i1 : (0 : Int) ≤ (k : Int) := by omega
      have i2 : (k : Int) < (l.length : Int) := by omega
      have hbw := hS.out.bw
      have y0 := (hbw.cell (p := ad.add (k * 4)) (World.block_lt_of_cell? W _ x0)).trans x0
      have y1 := (hbw.cell (p := ⟨(ad.add (k * 4)).block, (ad.add (k * 4)).off + 1, none⟩) (World.block_lt_of_cell? W _ x1)).trans x1
      have y2 := (hbw.cell (p := ⟨(ad.add (k * 4)).block, (ad.add (k * 4)).off + 2, none⟩) (World.block_lt_of_cell? W _ x2)).trans x2
      have y3 := (hbw.cell (p := ⟨(ad.add (k * 4)).block, (ad.add (k * 4)).off + 3, none⟩) (World.block_lt_of_cell? W _ x3)).trans x3
      clear x0 x1 x2 x3 hbw
      generalize l[k] = x at *
      obtain ⟨of, pl, out, t⟩ := x
      obtain ⟨z0, z1, z2⟩ := x4
      simp only at y0 y1 y2 y3 z0 z1 z2
      have e0 : (wr.alloc (Obj.cells #[Value.int IntKind.i64 of, Value.int IntKind.i64 pl, Value.int IntKind.i64 out, Value.string t] 30)).cell? ⟨wr.heap.size, 0, none⟩ = some (.int .i64 of) := by rw [World.cell?_alloc_new]; rfl
      have e1 : (wr.alloc (Obj.cells #[Value.int IntKind.i64 of, Value.int IntKind.i64 pl, Value.int IntKind.i64 out, Value.string t] 30)).cell? ⟨wr.heap.size, 1, none⟩ = some (.int .i64 pl) := by rw [World.cell?_alloc_new]; rfl
      have e2 : (wr.alloc (Obj.cells #[Value.int IntKind.i64 of, Value.int IntKind.i64 pl, Value.int IntKind.i64 out, Value.string t] 30)).cell? ⟨wr.heap.size, 2, none⟩ = some (.int .i64 out) := by rw [World.cell?_alloc_new]; rfl
      have e3 : (wr.alloc (Obj.cells #[Value.int IntKind.i64 of, Value.int IntKind.i64 pl, Value.int IntKind.i64 out, Value.string t] 30)).cell? ⟨wr.heap.size, 3, none⟩ = some (.string t) := by rw [World.cell?_alloc_new]; rfl
      have hX := Lib.hid (apart_new hS.out)
      have SQ := Lib.hid (hS.out.below ((Below.refl _ wr).alloc (Nat.le_refl _) (Obj.cells #[Value.int IntKind.i64 of, Value.int IntKind.i64 pl, Value.int IntKind.i64 out, Value.string t] 30)))
      go_upto_region 8 with fail
      generalize wr.alloc (Obj.cells #[Value.int IntKind.i64 of, Value.int IntKind.i64 pl, Value.int IntKind.i64 out, Value.string t] 30) = wq at *
      generalize wr.heap.size = X at *
      clear y0 y1 y2 y3 hS
      have hbwq := Lib.hid SQ.out.bw
      rcases (show (200 < t.size ∧ t.size ≤ 4000) ∨ 4009 < t.size ∨ (t.size ≤ 200) ∨ (200 < t.size ∧ ¬ t.size ≤ 4000 ∧ t.size ≤ 4009) by omega) with ⟨q1, q2⟩ | q1 | q1 | ⟨q1, q2, q3⟩
      · go_wp2_with fail
        go_ret
        exact ⟨rfl, hbwq.out⟩
      · have q2 : 200 < t.size := by omega
        have q3 : ¬ t.size ≤ 4000 := by omega
        go_wp2_with fail
        go_ret
        exact ⟨rfl, hbwq.out⟩
      all_goals
        have ht : t.size ≤ 4009 := by omega
        obtain ⟨j, hj, k1, k2, k3⟩ := which of L.length hL1 (by omega)
        obtain ⟨g1, rfl, m1⟩ := SQ.out.1.1.at_ j (by rw [strs_len]; exact hj)
        obtain ⟨g2, rfl, m2⟩ := SQ.out.1.2.1.at_ j (by rw [ptrs_len]; exact hj)
        have j1 : (0 : Int) ≤ (j : Int) := by omega
        have j2 : (j : Int) < (L.length : Int) := by omega
        simp only [strs, ptrs, List.getElem_map] at m1 m2
        have hA := SQ.out.2.1 L[j] (List.getElem_mem hj)
        generalize hz : L[j] = z at *
        obtain ⟨A, p⟩ := z
        simp only at m1 m2 hA
        have HH := Lib.hid hA.1
        have hAs := hA.2
        clear hA
        have C := Lib.hid (fun W' (hB : Below wq.heap.size wq W') => edit_all W' p (lst A) pl out t (HH.out.below hB) (by rw [lst_len]; exact hAs) z2)
        have SK := Lib.hid (fun (W' : World) (hB : Below wq.heap.size wq W') => (show W'.cell? ⟨g2, j, none⟩ = some (.pointer p) ∧ W'.cell? ⟨X, 1, none⟩ = some (.int .i64 pl) ∧ W'.cell? ⟨X, 2, none⟩ = some (.int .i64 out) ∧ W'.cell? ⟨X, 3, none⟩ = some (.string t) from ⟨keepCell hB m2, keepCell hB e1, keepCell hB e2, keepCell hB e3⟩))
        go_upto_region 12 with fail
        clear m1 m2 e0 k1 k2 k3
        go_cut [15, 16] (fun b e wx => ∃ Y p3, b = .pointer (some ⟨Y, 0, none⟩) ∧ Hid (After wq wx Y p3 (enew (lst A) pl out t) e (ecode (lst A) pl out t)))
        case first =>
          as_aux_lemma =>
            go_region_held3 (fun W' => W'.cell? ⟨g2, j, none⟩ = some (.pointer p) ∧ W'.cell? ⟨X, 1, none⟩ = some (.int .i64 pl) ∧ W'.cell? ⟨X, 2, none⟩ = some (.int .i64 out) ∧ W'.cell? ⟨X, 3, none⟩ = some (.string t))
              (first | exact SK.out _ (Hid.out (by assumption)) | exact SK.out _ (Below.refl _ _).drew | exact SK.out _ ((Below.refl _ _).alloc (Nat.le_refl _) _).drew | exact SK.out _ (alloc_hid (by assumption)) | exact SK.out _ (set_hid (by assumption)) | exact SK.out _ (set_alloc_hid (by assumption)))
              (first
                | (go_at_call 5; (refine (C.out (wq.alloc (.cells #[.pointer none] 26)).drew ((Below.refl _ wq).alloc (Nat.le_refl _) _).drew).mono ?_); rintro e w3 ⟨p3, v3, rfl, h3, r3, b3⟩; have H3 := Lib.hid h3; have R3 := Lib.hid r3; have hc3 : w3.cell? ⟨wq.heap.size, 0, none⟩ = some (.pointer none) := keepCell b3 (new_cell _ _ _); have hf3 : w3.frozen? ⟨wq.heap.size, 0, none⟩ = false := keepFree b3 (new_cell wq _ _) (by simp); have B3 := Lib.hid (((Below.refl wq.heap.size wq).alloc (Nat.le_refl _) _).drew.trans (b3.mono (by simp))); clear h3 r3 b3)
                | (go_at_call 5; (refine (C.out wq.drew (Below.refl _ wq).drew).mono ?_); rintro e w3 ⟨p3, v3, rfl, h3, r3, b3⟩; have H3 := Lib.hid h3; have R3 := Lib.hid r3; have B3 := Lib.hid ((Below.refl wq.heap.size wq).drew.trans b3); clear h3 r3 b3))

            all_goals
              go_wp2_with fail
              go_meet
              exact ⟨_, _, rfl, Lib.hid (by first | exact after_store (Nat.le_refl _) hc3 H3.out R3.out B3.out | exact after_alloc H3.out R3.out B3.out)⟩
        case rest =>
          obtain ⟨Y, p3, rfl, hA⟩ := hcut
          have b4 := Lib.hid hA.out.2.2.2.2.2
          have f1 := keepCell b4.out e1
          have f2 := keepCell b4.out e2
          have f3 := keepCell b4.out e3
          have SX := Lib.hid (SQ.out.below b4.out)
          have hXl := Lib.hid (World.block_lt_of_cell? wq _ e1)
          have hY12 := Lib.hid (apart_old SQ.out hA.out.1)
          clear e1 e2 e3 SK C HH SQ
          go_upto_block 2 with fail
          go_cut [17] (fun e wy => e = .int .i64 (ecode (lst A) pl out t) ∧ wy = wc)
          case first =>
            as_aux_lemma =>
              by_cases c1 : pl < 0
              · have ec := ecode_r (A := A) (pl := pl) (out := out) (t := t) (.inl c1)
                have d1 : decide (pl < 0) = true := decide_eq_true c1
                go_wp2_with fail
                go_meet
                exact ⟨by rw [ec], rfl⟩
              have d1 : decide (pl < 0) = false := decide_eq_false c1
              by_cases c2 : out < 0
              · have ec := ecode_r (A := A) (pl := pl) (out := out) (t := t) (.inr (.inl c2))
                have d2 : decide (out < 0) = true := decide_eq_true c2
                go_wp2_with fail
                go_meet
                exact ⟨by rw [ec], rfl⟩
              have d2 : decide (out < 0) = false := decide_eq_false c2
              by_cases c3 : (A.size : Int) < pl
              · have ec := ecode_r (A := A) (pl := pl) (out := out) (t := t) (.inr (.inr (by omega)))
                have d3 : decide ((A.size : Int) < pl) = true := decide_eq_true c3
                go_wp2_with fail
                go_meet
                exact ⟨by rw [ec], rfl⟩
              have d3 : decide ((A.size : Int) < pl) = false := decide_eq_false c3
              have g4 : IntKind.i64.wrap ((A.size : Int) - pl) = (A.size : Int) - pl := IntWalk.i64_in _ (by omega)
              by_cases c4 : (A.size : Int) - pl < out
              · have ec := ecode_r (A := A) (pl := pl) (out := out) (t := t) (.inr (.inr (by omega)))
                have d4 : decide ((A.size : Int) - pl < out) = true := decide_eq_true c4
                go_wp2_with fail
                go_meet
                exact ⟨by rw [ec], rfl⟩
              have d4 : decide ((A.size : Int) - pl < out) = false := decide_eq_false c4
              have g5 : IntKind.i64.wrap ((A.size : Int) - out) = (A.size : Int) - out := IntWalk.i64_in _ (by omega)
              have g6 : IntKind.i64.wrap ((A.size : Int) - out + (t.size : Int)) = (A.size : Int) - out + (t.size : Int) := IntWalk.i64_in _ (by omega)
              by_cases c5 : 4000 < (A.size : Int) - out + (t.size : Int)
              · have ec := ecode_f (A := A) (pl := pl) (out := out) (t := t) (by omega) c5
                have d5 : decide (4000 < (A.size : Int) - out + (t.size : Int)) = true := decide_eq_true c5
                go_wp2_with fail
                go_meet
                exact ⟨by rw [ec], rfl⟩
              rcases Nat.lt_or_ge 4000 t.size with hbig | hbig
              · exfalso; omega
              have ec := ecode_o (A := A) (pl := pl) (out := out) (t := t) (by omega) c5
              have d5 : decide (4000 < (A.size : Int) - out + (t.size : Int)) = false := decide_eq_false c5
              try (exfalso; omega)
              all_goals
                go_wp2_with fail
                go_meet
                exact ⟨by rw [ec], rfl⟩
          case rest =>
            obtain ⟨rfl, rfl⟩ := hcut
            have EN : ecode (lst A) pl out t = 0 → enew (lst A) pl out t = (lst A).take pl.toNat ++ lst t ++ (lst A).drop (pl.toNat + out.toNat) := fun h => if_pos h
            have EZ := Lib.hid (fun (h : ecode (lst A) pl out t = 0) => ecode_zero h)
            have ENH := Lib.hid EN
            clear EN
            have hbx := Lib.hid (hbwq.out.trans (b4.out.mono hbwq.out.size))
            generalize ecode (lst A) pl out t = c at *
            have BR := Lib.hid (Err.bare_any _ c (-1) c _ (HG.out.below hbx.out) hA.out.2.2.2.2.1)
            have hcc : (c == c && (-1 : Int) == -1) = true := by simp
            go_wp2_with fail
            refine BR.out.mono ?_; rintro e w5 ⟨rfl, b5⟩
            have S5 := Lib.hid (SX.out.below b5)
            have P5 := Lib.hid (hA.out.2.2.2.1.below b5)
            have y0 := keepCell b5 hA.out.2.2.1
            have y1 := keepCell b5 f1
            have y2 := keepCell b5 f2
            have y3 := keepCell b5 f3
            have hY := Lib.hid hA.out.1
            have hXY := Lib.hid (World.block_lt_of_cell? wc _ f1)
            clear b5 f1 f2 f3 SX BR hA
            by_cases hc0 : c = 0
            · as_aux_lemma =>
                subst hc0
                obtain ⟨o1, o2⟩ := EZ.out rfl
                rw [ENH.out rfl] at P5
                clear EZ ENH hcc
                obtain ⟨pn, rfl⟩ := Int.eq_ofNat_of_zero_le (show 0 ≤ pl by omega)
                obtain ⟨on, rfl⟩ := Int.eq_ofNat_of_zero_le (show 0 ≤ out by omega)
                simp only [Int.toNat_natCast] at P5
                rw [← lst_cut] at P5
                obtain ⟨m, hm⟩ : ∃ m, m = pn + on := ⟨_, rfl⟩
                rw [← hm] at P5
                have g7 : IntKind.i64.wrap ((pn : Int) + (on : Int)) = (m : Int) := by rw [IntWalk.i64_in _ (by omega)]; omega
                have g8 : pn ≤ A.size := by omega
                have g9 : m ≤ A.size := by omega
                have g10 : (0 : Int) ≤ (pn : Int) := by omega
                have g11 : (pn : Int) ≤ (A.size : Int) := by omega
                have g12 : (0 : Int) ≤ (m : Int) := by omega
                have g13 : (m : Int) ≤ (A.size : Int) := by omega
                have hSz : (A.extract 0 pn ++ t ++ A.extract m A.size).size ≤ 4000 := by
                  rw [← lst_len, lst_cut, List.length_append, List.length_append, List.length_take, List.length_drop, lst_len, lst_len]; omega
                have hSz2 : (A.extract 0 pn).size + t.size ≤ 9223372036854775807 := by
                  rw [← lst_len, lst_ext, List.length_drop, List.length_take, lst_len]; omega
                have hadd1 := fun w => run_string_add_sum (P := Tryd.prog) w (A.extract 0 pn) t hSz2
                have hadd2 := fun w => run_string_add_sum (P := Tryd.prog) w (A.extract 0 pn ++ t) (A.extract m A.size) (by rw [← ByteArray.size_append]; omega)
                have TT := Lib.hid S5.out.1
                have KP := Lib.hid (Kp.refl w5 (some g1) (some g2))
                have SK := Lib.hid (fun (W' : World) (hK : Kp w5 W' (some g1) (some g2)) => (show W'.cell? ⟨X, 1, none⟩ = some (.int .i64 (pn : Int)) ∧ W'.cell? ⟨X, 2, none⟩ = some (.int .i64 (on : Int)) ∧ W'.cell? ⟨X, 3, none⟩ = some (.string t) ∧ W'.cell? ⟨Y, 0, none⟩ = some (.pointer p3) from ⟨hK.cell y1 hX.out.1 hX.out.2, hK.cell y2 hX.out.1 hX.out.2, hK.cell y3 hX.out.1 hX.out.2, hK.cell y0 hY12.out.1 hY12.out.2⟩))
                go_upto_region 21 with fail
                clear o1 o2 y0 y1 y2 y3 hm hSz2
                go_region_held3 (fun W' => W'.cell? ⟨X, 1, none⟩ = some (.int .i64 (pn : Int)) ∧ W'.cell? ⟨X, 2, none⟩ = some (.int .i64 (on : Int)) ∧ W'.cell? ⟨X, 3, none⟩ = some (.string t) ∧ W'.cell? ⟨Y, 0, none⟩ = some (.pointer p3))
                  (first | exact SK.out _ KP.out | exact SK.out _ KP.out.drew | exact SK.out _ (KP.out.alloc _) | exact SK.out _ (KP.out.alloc _).drew | exact SK.out _ ((KP.out.alloc _).alloc _).drew | exact SK.out _ ((KP.out.alloc _).alloc _))
                  (first
                    | (refine step1k (by rfl) _ _ 23 (by rfl) (.string ⟨#[]⟩) 16 Tryd.underlying23 (by kernel_rfl) rfl (TT.out.lay1 _ _).drew rfl _ rfl rfl (by rw [strs_len]; omega) (by rw [strs_len]; omega) (KP.out.alloc _).drew rfl ?_; intro v4 w6 T6 K6; (replace TT := Lib.hid T6); (replace KP := Lib.hid K6); clear T6 K6)
                    | (refine step1k (by rfl) _ _ 23 (by rfl) (.string ⟨#[]⟩) 16 Tryd.underlying23 (by kernel_rfl) rfl (lay12 TT.out _ _ _ _).drew rfl _ rfl rfl (by rw [strs_len]; omega) (by rw [strs_len]; omega) ((KP.out.alloc _).alloc _).drew rfl ?_; intro v4 w6 T6 K6; (replace TT := Lib.hid T6); (replace KP := Lib.hid K6); clear T6 K6)
                    | (refine step1k (by rfl) _ _ 23 (by rfl) (.string ⟨#[]⟩) 16 Tryd.underlying23 (by kernel_rfl) rfl (lay21 TT.out _ _ _ _).drew rfl _ rfl rfl (by rw [strs_len]; omega) (by rw [strs_len]; omega) ((KP.out.alloc _).alloc _).drew rfl ?_; intro v4 w6 T6 K6; (replace TT := Lib.hid T6); (replace KP := Lib.hid K6); clear T6 K6)
                    | (refine step1k (by rfl) _ _ 23 (by rfl) (.string ⟨#[]⟩) 16 Tryd.underlying23 (by kernel_rfl) rfl (TT.out.lay1 _ _) rfl _ rfl rfl (by rw [strs_len]; omega) (by rw [strs_len]; omega) (KP.out.alloc _) rfl ?_; intro v4 w6 T6 K6; (replace TT := Lib.hid T6); (replace KP := Lib.hid K6); clear T6 K6)
                    | (refine step1k (by rfl) _ _ 23 (by rfl) (.string ⟨#[]⟩) 16 Tryd.underlying23 (by kernel_rfl) rfl TT.out rfl _ rfl rfl (by rw [strs_len]; omega) (by rw [strs_len]; omega) KP.out rfl ?_; intro v4 w6 T6 K6; (replace TT := Lib.hid T6); (replace KP := Lib.hid K6); clear T6 K6)
                    | (refine step2k (by rfl) _ _ 28 (by rfl) (.agg #[.pointer none]) 8 Tryd.underlying28 (by kernel_rfl) rfl (TT.out.lay2 _ _).drew rfl _ rfl rfl (by rw [ptrs_len]; omega) (by rw [ptrs_len]; omega) (KP.out.alloc _).drew rfl ?_; intro v5 w6 T6 K6; (replace TT := Lib.hid T6); (replace KP := Lib.hid K6); clear T6 K6)
                    | (refine step2k (by rfl) _ _ 28 (by rfl) (.agg #[.pointer none]) 8 Tryd.underlying28 (by kernel_rfl) rfl (lay12 TT.out _ _ _ _).drew rfl _ rfl rfl (by rw [ptrs_len]; omega) (by rw [ptrs_len]; omega) ((KP.out.alloc _).alloc _).drew rfl ?_; intro v5 w6 T6 K6; (replace TT := Lib.hid T6); (replace KP := Lib.hid K6); clear T6 K6)
                    | (refine step2k (by rfl) _ _ 28 (by rfl) (.agg #[.pointer none]) 8 Tryd.underlying28 (by kernel_rfl) rfl (lay21 TT.out _ _ _ _).drew rfl _ rfl rfl (by rw [ptrs_len]; omega) (by rw [ptrs_len]; omega) ((KP.out.alloc _).alloc _).drew rfl ?_; intro v5 w6 T6 K6; (replace TT := Lib.hid T6); (replace KP := Lib.hid K6); clear T6 K6)
                    | (refine step2k (by rfl) _ _ 28 (by rfl) (.agg #[.pointer none]) 8 Tryd.underlying28 (by kernel_rfl) rfl (TT.out.lay2 _ _) rfl _ rfl rfl (by rw [ptrs_len]; omega) (by rw [ptrs_len]; omega) (KP.out.alloc _) rfl ?_; intro v5 w6 T6 K6; (replace TT := Lib.hid T6); (replace KP := Lib.hid K6); clear T6 K6)
                    | (refine step2k (by rfl) _ _ 28 (by rfl) (.agg #[.pointer none]) 8 Tryd.underlying28 (by kernel_rfl) rfl TT.out rfl _ rfl rfl (by rw [ptrs_len]; omega) (by rw [ptrs_len]; omega) KP.out rfl ?_; intro v5 w6 T6 K6; (replace TT := Lib.hid T6); (replace KP := Lib.hid K6); clear T6 K6))
                all_goals
                  go_wp2_with fail
                  have SN := Lib.hid (st_next S5.out P5 hSz TT.out KP.out)
                  go_roundw
                  case rel => first | exact ⟨k + 1, L ++ [(A.extract 0 pn ++ t ++ A.extract m A.size, p3)], by omega, by go_num, SN.out.len1, SN.out.len2, by simp, by rw [List.length_append]; simp only [List.length_cons, List.length_nil]; omega, SN⟩ | ((repeat apply Exists.intro); exact ⟨⟨k + 1, L ++ [(A.extract 0 pn ++ t ++ A.extract m A.size, p3)], by omega, by go_num, SN.out.len1, SN.out.len2, by simp, by rw [List.length_append]; simp only [List.length_cons, List.length_nil]; omega, SN⟩, rfl⟩)
                  case measure => simp [intOf]; omega
            · as_aux_lemma =>
                have n0 : (c == 0) = false := by simp; omega
                go_wp2_with fail
                go_roundw
                case rel => first | exact ⟨k + 1, L, by omega, by go_num, ⟨_, _, rfl⟩, ⟨_, _, rfl⟩, hL1, by omega, S5⟩ | ((repeat apply Exists.intro); exact ⟨⟨k + 1, L, by omega, by go_num, ⟨_, _, rfl⟩, ⟨_, _, rfl⟩, hL1, by omega, S5⟩, rfl⟩)
                case measure => simp [intOf]; omega
    · obtain rfl : k = l.length := by omega
      have hbw := Lib.hid hS.out.bw
      clear UH
      go_wp2_with fail
      go_loopw [18] (fun i wr2 => ∃ n : Nat, n ≤ L.length ∧ i = .int .i64 (n : Int) ∧ Hid (St W wr2 (.slice a1 L.length c1) (.slice a2 L.length c2) L)) (fun i _ => L.length - (intOf i).toNat)
      case atStart => exact ⟨0, Nat.zero_le _, rfl, hS⟩
      case round =>
        clear hS hbw
        obtain ⟨n, hn, rfl, hS⟩ := hrel
        by_cases hnl : n < L.length
        · obtain ⟨g1, rfl, m1⟩ := hS.out.1.1.at_ n (by rw [strs_len]; exact hnl)
          obtain ⟨g2, rfl, m2⟩ := hS.out.1.2.1.at_ n (by rw [ptrs_len]; exact hnl)
          have j1 : (0 : Int) ≤ (n : Int) := by omega
          have j2 : (n : Int) < (L.length : Int) := by omega
          simp only [strs, ptrs, List.getElem_map] at m1 m2
          have hA := hS.out.2.1 L[n] (List.getElem_mem hnl)
          generalize hz : L[n] = z at *
          obtain ⟨A, p⟩ := z
          simp only at m1 m2 hA
          have HH := Lib.hid hA.1
          have hAs := hA.2
          clear hA hz
          have SK := Lib.hid (fun (W' : World) (hB : Below wr.heap.size wr W') => (show W'.cell? ⟨g1, n, none⟩ = some (.string A) ∧ W'.cell? ⟨g2, n, none⟩ = some (.pointer p) from ⟨keepCell hB m1, keepCell hB m2⟩))
          go_upto_region 25 with fail
          clear m1 m2
          go_region_held3 (fun W' => W'.cell? ⟨g1, n, none⟩ = some (.string A) ∧ W'.cell? ⟨g2, n, none⟩ = some (.pointer p))
            (first | exact SK.out _ (Below.refl _ _).drew | exact SK.out _ ((Below.refl _ _).alloc (Nat.le_refl _) _).drew | exact SK.out _ (((Below.refl _ _).alloc (Nat.le_refl _) _).drew.setCell (p := ⟨_, _, none⟩) (Nat.le_refl _) _)) (fail)
          all_goals
            obtain ⟨w3, hw3⟩ : ∃ w3, (wr.alloc (Obj.cells #[Value.pointer p] 26)).drew = w3 := ⟨_, rfl⟩
            have hb3 : Below wr.heap.size wr w3 := by rw [← hw3]; exact ((Below.refl _ _).alloc (Nat.le_refl _) _).drew
            have y0 : w3.cell? ⟨wr.heap.size, 0, none⟩ = some (.pointer p) := by rw [← hw3]; exact new_cell _ _ _
            rw [hw3]
            have S3 := Lib.hid (hS.out.below hb3)
            have H3 := Lib.hid (HH.out.below hb3)
            have HG3 := Lib.hid (HG.out.below S3.out.bw)
            have LN := Lib.hid (len_any' w3 p A H3.out)
            have ST := Lib.hid (fun W' (hB : Below w3.heap.size w3 W') => string_any' W' p A (H3.out.below hB) hAs)
            clear hb3 hw3 hS HH SK
            generalize wr.heap.size = Y at *
            have hne : (A.size : Int) = (A.size : Int) := rfl
            go_wp2_with fail
            refine LN.out.mono ?_; rintro e w4 ⟨rfl, b4⟩
            have B4 := Lib.hid b4
            have y4 := keepCell b4 y0
            clear b4 y0
            go_wp2_with fail
            refine (ST.out _ B4.out).mono ?_; rintro e w5 ⟨rfl, b5⟩
            have B5 := Lib.hid (B4.out.trans (b5.mono B4.out.size))
            have y5 := keepCell b5 y4
            clear b5 y4 LN ST
            go_upto_region 28 with fail
            by_cases f0 : from_ < 0
            · as_aux_lemma =>
                have SB := Lib.hid (fun W' (hB : Below w3.heap.size w3 W') => slice_no' W' p A from_ to_ (H3.out.below hB) (.inl f0))
                have AB := Lib.hid (fun W' (hB : Below w3.heap.size w3 W') => at_no' W' p A from_ (H3.out.below hB) (.inl f0))
                have d0 : decide (from_ < 0) = true := decide_eq_true f0
                go_wp2_with fail
                refine (SB.out _ B5.out).mono ?_; rintro e w6 ⟨u6, rfl, hu6, b6⟩
                have B6 := Lib.hid (B5.out.trans (b6.mono B5.out.size))
                have y6 := keepCell b6 y5
                have R6 := Lib.hid (Err.bare_any u6 2 (-1) 2 _ (HG3.out.below B6.out) (hu6.is _))
                clear b6 hu6
                go_wp2_with fail
                refine R6.out.mono ?_; rintro e w7 ⟨rfl, b7⟩
                have B7 := Lib.hid (B6.out.trans (b7.mono B6.out.size))
                have y7 := keepCell b7 y6
                clear b7 y6 R6
                go_wp2_with fail
                refine (AB.out _ B7.out).mono ?_; rintro e w8 ⟨u8', rfl, hu8, b8⟩
                have B8 := Lib.hid (B7.out.trans (b8.mono B7.out.size))
                have R8 := Lib.hid (Err.bare_any u8' 2 (-1) 2 _ (HG3.out.below B8.out) (hu8.is _))
                clear b8 hu8
                go_wp2_with fail
                refine R8.out.mono ?_; rintro e w9 ⟨rfl, b9⟩
                have S9 := Lib.hid (S3.out.below (B8.out.trans (b9.mono B8.out.size)))
                clear b9
                go_wp2_with fail
                go_roundw
                case rel => first | exact ⟨n + 1, by omega, by go_num, S9⟩ | ((repeat apply Exists.intro); exact ⟨⟨n + 1, by omega, by go_num, S9⟩, rfl⟩)
                case measure => simp [intOf]; omega
            have d0 : decide (from_ < 0) = false := decide_eq_false f0
            obtain ⟨fn, rfl⟩ := Int.eq_ofNat_of_zero_le (show 0 ≤ from_ by omega)
            by_cases t0 : to_ < (fn : Int)
            · as_aux_lemma =>
                have SB := Lib.hid (fun W' (hB : Below w3.heap.size w3 W') => slice_no' W' p A (fn : Int) to_ (H3.out.below hB) (.inr (.inl t0)))
                have d1 : decide (to_ < (fn : Int)) = true := decide_eq_true t0
                go_wp2_with fail
                refine (SB.out _ B5.out).mono ?_; rintro e w6 ⟨u6, rfl, hu6, b6⟩
                have B6 := Lib.hid (B5.out.trans (b6.mono B5.out.size))
                have y6 := keepCell b6 y5
                have R6 := Lib.hid (Err.bare_any u6 2 (-1) 2 _ (HG3.out.below B6.out) (hu6.is _))
                clear b6 hu6
                go_wp2_with fail
                refine R6.out.mono ?_; rintro e w7 ⟨rfl, b7⟩
                have B7 := Lib.hid (B6.out.trans (b7.mono B6.out.size))
                have y7 := keepCell b7 y6
                clear b7 y6 R6
                by_cases ab : (A.size : Int) ≤ (fn : Int)
                · as_aux_lemma =>
                    have AB := Lib.hid (fun W' (hB : Below w3.heap.size w3 W') => at_no' W' p A (fn : Int) (H3.out.below hB) (.inr ab))
                    have da : decide ((A.size : Int) ≤ (fn : Int)) = true := decide_eq_true ab
                    go_wp2_with fail
                    refine (AB.out _ B7.out).mono ?_; rintro e w8 ⟨u8', rfl, hu8, b8⟩
                    have B8 := Lib.hid (B7.out.trans (b8.mono B7.out.size))
                    have R8 := Lib.hid (Err.bare_any u8' 2 (-1) 2 _ (HG3.out.below B8.out) (hu8.is _))
                    clear b8 hu8
                    go_wp2_with fail
                    refine R8.out.mono ?_; rintro e w9 ⟨rfl, b9⟩
                    have S9 := Lib.hid (S3.out.below (B8.out.trans (b9.mono B8.out.size)))
                    clear b9
                    go_wp2_with fail
                    go_roundw
                    case rel => first | exact ⟨n + 1, by omega, by go_num, S9⟩ | ((repeat apply Exists.intro); exact ⟨⟨n + 1, by omega, by go_num, S9⟩, rfl⟩)
                    case measure => simp [intOf]; omega
                · as_aux_lemma =>
                    have AB := Lib.hid (fun W' (hB : Below w3.heap.size w3 W') => at_yes' W' p A fn (H3.out.below hB) hAs (by omega))
                    have da : decide ((A.size : Int) ≤ (fn : Int)) = false := decide_eq_false ab
                    have db : (fn : Int) < (A.size : Int) := by omega
                    have dc : (0 : Int) ≤ (fn : Int) := by omega
                    have dd : fn < A.size := by omega
                    go_wp2_with fail
                    refine (AB.out _ B7.out).mono ?_; rintro e w8 ⟨u8', rfl, hu8, b8⟩
                    obtain rfl := hu8.nil
                    have S9 := Lib.hid (S3.out.below (B7.out.trans (b8.mono B7.out.size)))
                    clear b8 hu8
                    go_wp2_with fail
                    go_roundw
                    case rel => first | exact ⟨n + 1, by omega, by go_num, S9⟩ | ((repeat apply Exists.intro); exact ⟨⟨n + 1, by omega, by go_num, S9⟩, rfl⟩)
                    case measure => simp [intOf]; omega
            have d1 : decide (to_ < (fn : Int)) = false := decide_eq_false t0
            by_cases t1 : (A.size : Int) < to_
            · as_aux_lemma =>
                have SB := Lib.hid (fun W' (hB : Below w3.heap.size w3 W') => slice_no' W' p A (fn : Int) to_ (H3.out.below hB) (.inr (.inr t1)))
                have d2 : decide ((A.size : Int) < to_) = true := decide_eq_true t1
                go_wp2_with fail
                refine (SB.out _ B5.out).mono ?_; rintro e w6 ⟨u6, rfl, hu6, b6⟩
                have B6 := Lib.hid (B5.out.trans (b6.mono B5.out.size))
                have y6 := keepCell b6 y5
                have R6 := Lib.hid (Err.bare_any u6 2 (-1) 2 _ (HG3.out.below B6.out) (hu6.is _))
                clear b6 hu6
                go_wp2_with fail
                refine R6.out.mono ?_; rintro e w7 ⟨rfl, b7⟩
                have B7 := Lib.hid (B6.out.trans (b7.mono B6.out.size))
                have y7 := keepCell b7 y6
                clear b7 y6 R6
                by_cases ab : (A.size : Int) ≤ (fn : Int)
                · as_aux_lemma =>
                    have AB := Lib.hid (fun W' (hB : Below w3.heap.size w3 W') => at_no' W' p A (fn : Int) (H3.out.below hB) (.inr ab))
                    have da : decide ((A.size : Int) ≤ (fn : Int)) = true := decide_eq_true ab
                    go_wp2_with fail
                    refine (AB.out _ B7.out).mono ?_; rintro e w8 ⟨u8', rfl, hu8, b8⟩
                    have B8 := Lib.hid (B7.out.trans (b8.mono B7.out.size))
                    have R8 := Lib.hid (Err.bare_any u8' 2 (-1) 2 _ (HG3.out.below B8.out) (hu8.is _))
                    clear b8 hu8
                    go_wp2_with fail
                    refine R8.out.mono ?_; rintro e w9 ⟨rfl, b9⟩
                    have S9 := Lib.hid (S3.out.below (B8.out.trans (b9.mono B8.out.size)))
                    clear b9
                    go_wp2_with fail
                    go_roundw
                    case rel => first | exact ⟨n + 1, by omega, by go_num, S9⟩ | ((repeat apply Exists.intro); exact ⟨⟨n + 1, by omega, by go_num, S9⟩, rfl⟩)
                    case measure => simp [intOf]; omega
                · as_aux_lemma =>
                    have AB := Lib.hid (fun W' (hB : Below w3.heap.size w3 W') => at_yes' W' p A fn (H3.out.below hB) hAs (by omega))
                    have da : decide ((A.size : Int) ≤ (fn : Int)) = false := decide_eq_false ab
                    have db : (fn : Int) < (A.size : Int) := by omega
                    have dc : (0 : Int) ≤ (fn : Int) := by omega
                    have dd : fn < A.size := by omega
                    go_wp2_with fail
                    refine (AB.out _ B7.out).mono ?_; rintro e w8 ⟨u8', rfl, hu8, b8⟩
                    obtain rfl := hu8.nil
                    have S9 := Lib.hid (S3.out.below (B7.out.trans (b8.mono B7.out.size)))
                    clear b8 hu8
                    go_wp2_with fail
                    go_roundw
                    case rel => first | exact ⟨n + 1, by omega, by go_num, S9⟩ | ((repeat apply Exists.intro); exact ⟨⟨n + 1, by omega, by go_num, S9⟩, rfl⟩)
                    case measure => simp [intOf]; omega
            have d2 : decide ((A.size : Int) < to_) = false := decide_eq_false t1
            obtain ⟨tn, rfl⟩ := Int.eq_ofNat_of_zero_le (show 0 ≤ to_ by omega)
            have SB := Lib.hid (fun W' (hB : Below w3.heap.size w3 W') => slice_yes' W' p A fn tn (H3.out.below hB) hAs (by omega) (by omega))
            have k1 : (0 : Int) ≤ (fn : Int) := by omega
            have k2 : (fn : Int) ≤ (tn : Int) := by omega
            have k3 : (tn : Int) ≤ (A.size : Int) := by omega

            go_wp2_with fail
            refine (SB.out _ B5.out).mono ?_; rintro e w7 ⟨u6, rfl, hu6, b7⟩
            obtain rfl := hu6.nil
            have B7 := Lib.hid (B5.out.trans (b7.mono B5.out.size))
            have y7 := keepCell b7 y5
            clear b7 hu6
            by_cases ab : (A.size : Int) ≤ (fn : Int)
            · as_aux_lemma =>
                have AB := Lib.hid (fun W' (hB : Below w3.heap.size w3 W') => at_no' W' p A (fn : Int) (H3.out.below hB) (.inr ab))
                have da : decide ((A.size : Int) ≤ (fn : Int)) = true := decide_eq_true ab
                go_wp2_with fail
                refine (AB.out _ B7.out).mono ?_; rintro e w8 ⟨u8', rfl, hu8, b8⟩
                have B8 := Lib.hid (B7.out.trans (b8.mono B7.out.size))
                have R8 := Lib.hid (Err.bare_any u8' 2 (-1) 2 _ (HG3.out.below B8.out) (hu8.is _))
                clear b8 hu8
                go_wp2_with fail
                refine R8.out.mono ?_; rintro e w9 ⟨rfl, b9⟩
                have S9 := Lib.hid (S3.out.below (B8.out.trans (b9.mono B8.out.size)))
                clear b9
                go_wp2_with fail
                go_roundw
                case rel => first | exact ⟨n + 1, by omega, by go_num, S9⟩ | ((repeat apply Exists.intro); exact ⟨⟨n + 1, by omega, by go_num, S9⟩, rfl⟩)
                case measure => simp [intOf]; omega
            · as_aux_lemma =>
                have AB := Lib.hid (fun W' (hB : Below w3.heap.size w3 W') => at_yes' W' p A fn (H3.out.below hB) hAs (by omega))
                have da : decide ((A.size : Int) ≤ (fn : Int)) = false := decide_eq_false ab
                have db : (fn : Int) < (A.size : Int) := by omega
                have dc : (0 : Int) ≤ (fn : Int) := by omega
                have dd : fn < A.size := by omega
                go_wp2_with fail
                refine (AB.out _ B7.out).mono ?_; rintro e w8 ⟨u8', rfl, hu8, b8⟩
                obtain rfl := hu8.nil
                have S9 := Lib.hid (S3.out.below (B7.out.trans (b8.mono B7.out.size)))
                clear b8 hu8
                go_wp2_with fail
                go_roundw
                case rel => first | exact ⟨n + 1, by omega, by go_num, S9⟩ | ((repeat apply Exists.intro); exact ⟨⟨n + 1, by omega, by go_num, S9⟩, rfl⟩)
                case measure => simp [intOf]; omega
        · obtain rfl : n = L.length := by omega
          have hbw := Lib.hid hS.out.bw
          clear hS
          go_wp2_with fail
          go_ret
          exact ⟨rfl, hbw.out⟩
end Go.Proofs.YtfckhkpheahgaaaDoor.Pc
