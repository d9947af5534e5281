/-
  PROVED HERE: the contract of the document's LineParse. Conditions: as each theorem states.
-/
import Derived.Test.YtehmnohkfchljaaDoorExF
import Derived.Test.YtehmnohkfchljaaDoorParE
import Derived.Test.YtehmnohkfchljaaDoorHexV
import Derived.Test.YtehmnohkfchljaaDoorPow
import Derived.Deep.RegionLaw
import Derived.Carry
import Derived.Deep.DrawnRows
namespace Go.Proofs.YtehmnohkfchljaaDoor.Ex
open Go.RowKit Dig Go.Lib
attribute [local go_sem ↓] Go.wp_at_zero Go.wp_at_succ
/-- What LineParse answers. -/
def LiP (Z : Cmd) (W : World) (e : Ending) (w' : World) : Prop :=
  ∃ vn vb vq, e = .returned (.tuple #[.agg #[.string Z.w, vn, vb, vq], .int .i64 Z.e]) ∧ Own w' 0 3 vn (i64s Z.n) ∧ Own w' 0 9 vb (strs Z.b) ∧ Own w' 0 3 vq (i64s Z.q) ∧ Below W.heap.size W w'
theorem wd_small' (s : ByteArray) : (wd s).length ≤ s.size + 1 ∧ ∀ x ∈ wd s, x.size ≤ s.size := by
  have h := split_tot 32 _ s rfl
  exact ⟨Nat.le_trans (List.length_filter_le _ _) h.1, fun x hx => h.2 x (List.mem_filter.1 hx).1⟩
/-- The result's cells, made first. -/
def madeL (W : World) : World := W.alloc (.cells #[.string ⟨#[]⟩, .slice none 0 0, .slice none 0 0, .slice none 0 0] 25)
theorem madeL_size (W : World) : (madeL W).heap.size = W.heap.size + 1 := by unfold madeL; rw [World.size_alloc]
theorem madeL_cell (W : World) (j : Nat) (h : j < 4) : ∃ v, (madeL W).cell? ⟨W.heap.size, j, none⟩ = some v ∧ (madeL W).frozen? ⟨W.heap.size, j, none⟩ = false := by
  unfold madeL
  rw [World.cell?_alloc_new, World.frozen?_alloc_mark]
  rcases j with _ | _ | _ | _ | j
  · exact ⟨_, rfl, by simp⟩
  · exact ⟨_, rfl, by simp⟩
  · exact ⟨_, rfl, by simp⟩
  · exact ⟨_, rfl, by simp⟩
  · omega
/-- Four cells written. -/
def put4L (W A : World) (a b c d : Value) : World := (((A.setCell ⟨W.heap.size, 0, none⟩ a).setCell ⟨W.heap.size, 1, none⟩ b).setCell ⟨W.heap.size, 2, none⟩ c).setCell ⟨W.heap.size, 3, none⟩ d
theorem put4L_below {W A : World} (h : Below (madeL W).heap.size (madeL W) A) (a b c d : Value) : Below W.heap.size W (put4L W A a b c d) := by
  have h0 : Below W.heap.size W A := ((Below.refl _ W).alloc (Nat.le_refl _) _).trans (h.mono (by rw [madeL_size]; omega))
  exact (((h0.setCell (p := ⟨W.heap.size, 0, none⟩) (Nat.le_refl _) _).setCell (p := ⟨W.heap.size, 1, none⟩) (Nat.le_refl _) _).setCell (p := ⟨W.heap.size, 2, none⟩) (Nat.le_refl _) _).setCell (p := ⟨W.heap.size, 3, none⟩) (Nat.le_refl _) _
theorem put4L_own {W A : World} {H E : Nat} {v : Value} {xs : List Value} (h : Own A H E v xs) (hH : W.heap.size < H) (a b c d : Value) : Own (put4L W A a b c d) 0 E v xs :=
  ((((h.setBelow (a := ⟨W.heap.size, 0, none⟩) hH a).setBelow (a := ⟨W.heap.size, 1, none⟩) hH b).setBelow (a := ⟨W.heap.size, 2, none⟩) hH c).setBelow (a := ⟨W.heap.size, 3, none⟩) hH d).base (Nat.zero_le _)
theorem put4L_nil {W A : World} {E : Nat} (a b c d : Value) : Own (put4L W A a b c d) 0 E (.slice none 0 0) [] := own_nil _ _ _
theorem own_lit1' (w : World) (E : Nat) (u : Value) : Own (w.alloc (.cells #[u] E)) w.heap.size E (.slice (some ⟨w.heap.size, 0, none⟩) 1 1) [u] :=
  World.ownsRow_lit (base := w.heap.size) (e := E) (size := 1) w #[u] 1 (Nat.le_refl _) (by unfold maxLen; omega) rfl
/-- The variable and the iterator, new. -/
theorem cmL_new (w : World) (x F : ByteArray) : CM w w.heap.size (w.heap.size + 2) (some (.stringIter F 0)) x (.slice none 0 0) (.slice none 0 0) (.slice none 0 0) [] [] [] ((w.alloc (.cells #[.string x, .slice none 0 0, .slice none 0 0, .slice none 0 0] 25)).alloc (.stringIter F 0)) := by
  have hb : Below (w.heap.size + 1) (w.alloc (.cells #[.string x, .slice none 0 0, .slice none 0 0, .slice none 0 0] 25)) ((w.alloc (.cells #[.string x, .slice none 0 0, .slice none 0 0, .slice none 0 0] 25)).alloc (.stringIter F 0)) := (Below.refl _ _).alloc (by rw [World.size_alloc]; exact Nat.le_refl _) _
  have kc : ∀ j, ((w.alloc (.cells #[.string x, .slice none 0 0, .slice none 0 0, .slice none 0 0] 25)).alloc (.stringIter F 0)).cell? ⟨w.heap.size, j, none⟩ = (w.alloc (.cells #[.string x, .slice none 0 0, .slice none 0 0, .slice none 0 0] 25)).cell? ⟨w.heap.size, j, none⟩ := fun j => hb.cell (p := ⟨w.heap.size, j, none⟩) (Nat.lt_succ_self _)
  refine ⟨((Below.refl _ _).alloc (Nat.le_refl _) _).alloc (by rw [World.size_alloc]; omega) _, by omega, by rw [World.size_alloc, World.size_alloc]; exact Nat.le_refl _, (kc 0).trans ?_, (kc 1).trans ?_, (kc 2).trans ?_, (kc 3).trans ?_, fun j => (hb.frozen (p := ⟨w.heap.size, j, none⟩) (Nat.lt_succ_self _)).trans ?_, own_nil _ _ _, own_nil _ _ _, own_nil _ _ _, (fun r e => by cases e), (fun r e => by cases e), (fun r e => by cases e), fun o e => ?_⟩
  · rw [World.cell?_alloc_new]; rfl
  · rw [World.cell?_alloc_new]; rfl
  · rw [World.cell?_alloc_new]; rfl
  · rw [World.cell?_alloc_new]; rfl
  · rw [World.frozen?_alloc_mark]; simp
  · cases e
    refine ⟨by omega, ?_⟩
    have := World.alloc_heap_new (w.alloc (.cells #[.string x, .slice none 0 0, .slice none 0 0, .slice none 0 0] 25)) (.stringIter F 0)
    rw [World.size_alloc] at this
    exact this
def itLeft (k : Nat) (w : World) : Nat := match w.heap[k]? with | some (.stringIter s p) => s.size - p | _ => 0
theorem itLeft_eq {k : Nat} {w : World} {s : ByteArray} {p : Nat} (h : w.heap[k]? = some (.stringIter s p)) : itLeft k w = s.size - p := by unfold itLeft; rw [h]
theorem dec_ascii (s : ByteArray) (p : Nat) (h : byteAt s p < 128) : Utf8.decode s p = (byteAt s p, 1) := by
  rw [dec_at]
  unfold Lib.decodeN
  rw [if_pos h]
theorem grown_cell (A : World) (b j : Nat) (v : Value) : A.grownBy (A.setCell ⟨b, j, none⟩ v) (some b) :=
  ⟨rfl, rfl, rfl, by simp [World.setCell], fun k _ hk => Below.heap_setCell _ _ _ k (fun e => hk (by rw [e]))⟩
/-- A new variable's cells are written. -/
theorem CM.fresh {W0 A A' : World} {G H : Nat} {it : Option Obj} {w : ByteArray} {vn vb vq : Value} {N Q : List Int} {B : List ByteArray} (h0 : CM W0 G H it w vn vb vq N B Q A) (h : CM W0 G H it w vn vb vq N B Q A') {b : Nat} (hb : A.heap.size ≤ b) (j : Nat) (v : Value) :
    CM W0 G H it w vn vb vq N B Q (A'.setCell ⟨b, j, none⟩ v) :=
  h.grown (grown_cell A' b j v) (fun r e => by
    cases e
    exact ⟨Nat.le_trans h0.sz hb, fun e => by have := (h0.on.lt _ e).2; omega, fun e => by have := (h0.ob.lt _ e).2; omega, fun e => by have := (h0.oq.lt _ e).2; omega⟩)
theorem way_snoc {w5 : World} {B E y c : Nat} {v1 : Value} {Q : List Int} (h : Own w5 B E v1 (i64s Q ++ #[Value.int .i64 (IntKind.i64.wrap (((y : Nat) : Int).tmod 4611686018427387904))].toList)) (hc : ((y : Nat) : Int) % 4611686018427387904 = (c : Int)) (_ : c < 4611686018427387904) : Own w5 B E v1 (i64s (Q ++ [(c : Int)])) := by
  rw [Int.tmod_eq_emod_of_nonneg (Int.natCast_nonneg _), hc, IntWalk.i64_in _ (by omega)] at h
  rw [← i64s_snoc]
  exact h
/-- The way grows by one: its row lies behind the pieces' one. -/
theorem upd_way {W0 B1 A1 w5 : World} {G H b : Nat} {it : Option Obj} {w : ByteArray} {vn vb vq v1 : Value} {N Q Q1 : List Int} {B : List ByteArray} {o : Obj} (h : CM W0 G H it w vn vb vq N B Q B1) (hO : Own B1 (b + 1) 3 vq (i64s Q))
    (hP : B1.heap[b]? = A1.heap[b]? ∧ b < B1.heap.size) (hH : H ≤ b) (hg : (B1.drew.alloc o).grownBy w5 vq.ownBlock) (ho : Own w5 (b + 1) 3 v1 (i64s Q1)) (hor : v1.ownBlock = vq.ownBlock ∨ v1.ownBlock = some (B1.drew.alloc o).heap.size) :
    w5.cell? ⟨G, 3, none⟩ = some vq ∧ w5.frozen? ⟨G, 3, none⟩ = false ∧ CM W0 G H it w vn vb v1 N B Q1 (w5.setCell ⟨G, 3, none⟩ v1) ∧ Own (w5.setCell ⟨G, 3, none⟩ v1) (b + 1) 3 v1 (i64s Q1) ∧ ((w5.setCell ⟨G, 3, none⟩ v1).heap[b]? = A1.heap[b]? ∧ b < (w5.setCell ⟨G, 3, none⟩ v1).heap.size) := by
  have hgh := h.gh
  have hz : (B1.drew.alloc o).heap.size = B1.heap.size + 1 := by rw [World.size_alloc]; rfl
  have hR := (h.drew.alloc o).wayset hg (fun r e => e) (ho.base (by omega)) (hor.imp id (fun e r e2 => by rw [e] at e2; cases e2; exact Nat.le_refl _))
  refine ⟨hR.1, hR.2.1, hR.2.2, ho.setBelow (a := ⟨G, 3, none⟩) (show G < b + 1 by omega) _, ?_, ?_⟩
  · rw [heap_other _ _ _ _ (show b ≠ G by omega)]
    have e1 := hg.block b (by rw [hz]; have := hP.2; omega) (fun e => by have := (hO.lt _ e.symm).1; omega)
    exact e1.trans ((Below.heap_alloc _ _ _ hP.2).trans hP.1)
  · have := hg.size
    have hs : (w5.setCell ⟨G, 3, none⟩ v1).heap.size = w5.heap.size := by simp [World.setCell]
    rw [hs]
    have := hP.2
    omega
set_option maxRecDepth 100000 in
set_option maxHeartbeats 16000000 in
theorem lineParse_any (s : ByteArray) (hs : s.size ≤ 200) (W : World) (m : Int) (hm : W.cell? ⟨1, 0, none⟩ = some (.int .i64 m)) : Calls Tryd.prog 4 #[.string s] W (LiP (cmd (wd s)) W) := by
  have hmm := @run_makeMap Tryd.prog
  have HM9 : Hid (∀ w, Below (madeL W).heap.size (madeL W) w → w.cell? ⟨1, 0, none⟩ = some (.int .i64 m)) := Lib.hid (fun w h => keepCell h (keepCell ((Below.refl _ _).alloc (Nat.le_refl _) _) hm))
  have FF := docWords_any s hs (madeL W) m (keepCell ((Below.refl _ _).alloc (Nat.le_refl _) _) hm)
  obtain ⟨Z, hZ⟩ : ∃ Z, cmd (wd s) = Z := ⟨_, rfl⟩
  rw [hZ]
  have HZ := Lib.hid hZ
  clear hZ
  obtain ⟨hn1, hn2⟩ := wd_small' s
  generalize wd s = ws at *
  have hwl : ws.length ≤ 201 := by omega
  have hwx : Hid (∀ x ∈ ws, x.size ≤ 1000) := Lib.hid (fun x hx => Nat.le_trans (hn2 x hx) (by omega))
  have HFF := Lib.hid FF
  obtain ⟨z0, y0, g0⟩ := madeL_cell W 0 (by omega)
  obtain ⟨z1, y1, g1⟩ := madeL_cell W 1 (by omega)
  obtain ⟨z2, y2, g2⟩ := madeL_cell W 2 (by omega)
  obtain ⟨z3, y3, g3⟩ := madeL_cell W 3 (by omega)
  have HY := Lib.hid (show _ ∧ _ ∧ _ ∧ _ ∧ _ ∧ _ ∧ _ ∧ _ from ⟨y0, y1, y2, y3, g0, g1, g2, g3⟩)
  clear FF hn1 hn2 y0 y1 y2 y3 g0 g1 g2 g3 hs hm
  go_enter Tryd.func4, Tryd.ntmps4
  go_wp2_with fail
  refine HFF.out.mono ?_; rintro e w2 ⟨v, rfl, hO, hb2⟩
  have HB := Lib.hid hb2
  have k := HY.out
  have x0 := keepCell hb2 k.1
  have x1 := keepCell hb2 k.2.1
  have x2 := keepCell hb2 k.2.2.1
  have x3 := keepCell hb2 k.2.2.2.1
  have f0 := keepFree hb2 k.1 k.2.2.2.2.1
  have f1 := keepFree hb2 k.2.1 k.2.2.2.2.2.1
  have f2 := keepFree hb2 k.2.2.1 k.2.2.2.2.2.2.1
  have f3 := keepFree hb2 k.2.2.2.1 k.2.2.2.2.2.2.2
  have mW : ¬ W.heap.size = w2.heap.size := by have := HB.out.size; rw [madeL_size] at this; omega
  clear k HY hb2 HFF
  cases ws with
  | nil =>
    obtain rfl : Z = bad := HZ.out.symm
    obtain ⟨a, cap, rfl⟩ := hO.len
    rw [strs_len, List.length_nil]
    clear hO
    have hOM : OM (w2.alloc (.map #[] 0)) w2.heap.size 0 D0 := World.ownsMap_made w2 Tryd.prog 9 (plainElem Tryd.prog 9)
    obtain ⟨m1, m2, m3, m4, m5, m6, m7, m8, m9, m10, m11, e1, e2, e3, e4, e5, e6, e7, e8, e9, e10, e11, eL, hgm⟩ := forms_made _ _ hOM ⟨#[]⟩ (by decide)
    have hb3 : Below w2.heap.size w2 m11 := ((Below.refl _ _).alloc (Nat.le_refl _) _).grown hgm (by rw [World.size_alloc]; omega) (fun k e => by cases e; exact Nat.le_refl _)
    clear hOM hgm
    replace f0 := keepFree hb3 x0 f0
    replace f1 := keepFree hb3 x1 f1
    replace f2 := keepFree hb3 x2 f2
    replace f3 := keepFree hb3 x3 f3
    replace x0 := keepCell hb3 x0
    replace x1 := keepCell hb3 x1
    replace x2 := keepCell hb3 x2
    replace x3 := keepCell hb3 x3
    replace HB := Lib.hid (HB.out.trans (hb3.mono HB.out.size))
    replace mW : ¬ W.heap.size = m11.heap.size := by have := HB.out.size; rw [madeL_size] at this; omega
    clear hb3
    go_wp2_with fail
    refine bodyPost_ret (v := .tuple #[.agg #[.string ⟨#[]⟩, .slice none 0 0, .slice none 0 0, .slice none 0 0], .int .i64 3]) (by simp [results, Tryd.results4, go_sem, x0, x1, x2, x3]) rfl ?_
    exact ⟨_, _, _, rfl, put4L_nil _ _ _ _, put4L_nil _ _ _ _, put4L_nil _ _ _ _, put4L_below HB.out _ _ _ _⟩
  | cons x r =>
    obtain ⟨g, cap, hv, hBg, hA2, hcel⟩ : ∃ g cap, v = .slice (some ⟨g, 0, none⟩) (x :: r).length cap ∧ (madeL W).heap.size ≤ g ∧ g < w2.heap.size ∧ ∀ j (h : j < (x :: r).length), w2.cell? ⟨g, j, none⟩ = some (.string (x :: r)[j]) := by
      rcases hO.form with ⟨_, h0⟩ | ⟨g, cap, e, h1, h2, h3, _⟩
      · simp [strs] at h0
      · refine ⟨g, cap, by rw [e, strs_len], h1, h2, fun j hj => ?_⟩
        rw [h3 j (by rw [strs_len]; exact hj)]
        simp only [strs, List.getElem_map]
    subst hv
    have hcell := Lib.hid hcel
    have hx : w2.cell? ⟨g, 0, none⟩ = some (.string x) := hcel 0 (Nat.zero_lt_succ _)
    clear hO hcel
    have hxs : x.size ≤ 1000 := hwx.out x (List.mem_cons_self ..)
    have C1 : Hid (∀ W, Calls Tryd.prog 10 #[.string x] W fun e w' => e = .returned (.tuple #[.int .i64 (num x), .int .i64 (nume x)]) ∧ Below W.heap.size W w') := Lib.hid (fun W => docNumber_any x hxs W)
    obtain ⟨L, hL⟩ : ∃ L, (x :: r).length = L := ⟨_, rfl⟩
    have hL1 : L = r.length + 1 := hL ▸ rfl
    rw [hL]
    have l0 : ((L : Int) == 0) = false := by rw [beq_eq_false_iff_ne]; omega
    have hLH := Lib.hid hL1
    have l2 : (0 : Int) < (L : Int) := by omega
    have l4 : L ≤ 201 := by omega
    clear hwl hL hL1
    by_cases hr : r = []
    · have l3 : ((L : Int) == 1) = true := by rw [hLH.out, hr]; rfl
      by_cases hn : nume x = 0
      · subst hr
        obtain rfl := HZ.out.symm.trans (cmd_go hn)
        rw [hn] at C1
        clear hn hcell
        go_wp2_with fail
        refine (C1.out _).mono ?_; rintro e w3 ⟨rfl, hb3⟩
        replace f0 := keepFree hb3 x0 f0
        replace f1 := keepFree hb3 x1 f1
        replace f2 := keepFree hb3 x2 f2
        replace f3 := keepFree hb3 x3 f3
        replace x0 := keepCell hb3 x0
        replace x1 := keepCell hb3 x1
        replace x2 := keepCell hb3 x2
        replace x3 := keepCell hb3 x3
        replace HB := Lib.hid (HB.out.trans (hb3.mono HB.out.size))
        replace hx := keepCell hb3 hx
        replace hA2 := Nat.lt_of_lt_of_le hA2 hb3.size
        replace mW : ¬ W.heap.size = w3.heap.size := by have := HB.out.size; rw [madeL_size] at this; omega
        clear hb3
        have X0 := keepCell ((Below.refl _ w3).alloc (Nat.le_refl _) (.cells #[.int .i64 (num x)] 3)) x0
        have X1 := keepCell ((Below.refl _ w3).alloc (Nat.le_refl _) (.cells #[.int .i64 (num x)] 3)) x1
        have X2 := keepCell ((Below.refl _ w3).alloc (Nat.le_refl _) (.cells #[.int .i64 (num x)] 3)) x2
        have X3 := keepCell ((Below.refl _ w3).alloc (Nat.le_refl _) (.cells #[.int .i64 (num x)] 3)) x3
        have F0 := keepFree ((Below.refl _ w3).alloc (Nat.le_refl _) (.cells #[.int .i64 (num x)] 3)) x0 f0
        have F1 := keepFree ((Below.refl _ w3).alloc (Nat.le_refl _) (.cells #[.int .i64 (num x)] 3)) x1 f1
        have F2 := keepFree ((Below.refl _ w3).alloc (Nat.le_refl _) (.cells #[.int .i64 (num x)] 3)) x2 f2
        have F3 := keepFree ((Below.refl _ w3).alloc (Nat.le_refl _) (.cells #[.int .i64 (num x)] 3)) x3 f3
        clear x0 x1 x2 x3 f0 f1 f2 f3
        go_wp2_with fail
        refine bodyPost_ret (v := .tuple #[.agg #[.string ⟨#[103, 111]⟩, .slice (some ⟨w3.heap.size, 0, none⟩) 1 1, .slice none 0 0, .slice none 0 0], .int .i64 0]) (by simp [results, Tryd.results4, go_sem, X0, X1, X2, X3]) rfl ?_
        exact ⟨_, _, _, rfl, put4L_own (own_lit1' w3 _ _) (by have := HB.out.size; rw [madeL_size] at this; omega) _ _ _ _, put4L_nil _ _ _ _, put4L_nil _ _ _ _, put4L_below (HB.out.alloc HB.out.size _) _ _ _ _⟩
      · have hne : r = [] → nume x ≠ 0 := fun _ => hn
        have hn1 : (nume x == 0) = false := by rw [beq_eq_false_iff_ne]; exact hn
        generalize hnx : nume x = z9 at C1 hn1
        clear hn hr hnx
        go_wp2_with fail
        refine (C1.out _).mono ?_; rintro e w3 ⟨rfl, hb3⟩
        replace f0 := keepFree hb3 x0 f0
        replace f1 := keepFree hb3 x1 f1
        replace f2 := keepFree hb3 x2 f2
        replace f3 := keepFree hb3 x3 f3
        replace x0 := keepCell hb3 x0
        replace x1 := keepCell hb3 x1
        replace x2 := keepCell hb3 x2
        replace x3 := keepCell hb3 x3
        replace HB := Lib.hid (HB.out.trans (hb3.mono HB.out.size))
        replace hx := keepCell hb3 hx
        replace hcell := Lib.hid (fun j (h : j < (x :: r).length) => keepCell hb3 (hcell.out j h))
        replace hA2 := Nat.lt_of_lt_of_le hA2 hb3.size
        replace mW : ¬ W.heap.size = w3.heap.size := by have := HB.out.size; rw [madeL_size] at this; omega
        clear hb3
        have hOM : OM (w3.alloc (.map #[] 0)) w3.heap.size 0 D0 := World.ownsMap_made w3 Tryd.prog 9 (plainElem Tryd.prog 9)
        obtain ⟨m1, m2, m3, m4, m5, m6, m7, m8, m9, m10, m11, e1, e2, e3, e4, e5, e6, e7, e8, e9, e10, e11, eL, hgm⟩ := forms_made _ _ hOM x hxs
        have hb3 : Below w3.heap.size w3 m11 := ((Below.refl _ _).alloc (Nat.le_refl _) _).grown hgm (by rw [World.size_alloc]; omega) (fun k e => by cases e; exact Nat.le_refl _)
        clear hOM hgm
        replace f0 := keepFree hb3 x0 f0
        replace f1 := keepFree hb3 x1 f1
        replace f2 := keepFree hb3 x2 f2
        replace f3 := keepFree hb3 x3 f3
        replace x0 := keepCell hb3 x0
        replace x1 := keepCell hb3 x1
        replace x2 := keepCell hb3 x2
        replace x3 := keepCell hb3 x3
        replace HB := Lib.hid (HB.out.trans (hb3.mono HB.out.size))
        replace hx := keepCell hb3 hx
        replace hcell := Lib.hid (fun j (h : j < (x :: r).length) => keepCell hb3 (hcell.out j h))
        replace hA2 := Nat.lt_of_lt_of_le hA2 hb3.size
        replace mW : ¬ W.heap.size = m11.heap.size := by have := HB.out.size; rw [madeL_size] at this; omega
        clear hb3
        cases hf : frm x.toList with
        | none =>
          obtain rfl : Z = bad := HZ.out.symm.trans (cmd_none hne hf)
          rw [hf] at eL
          simp only [fmS, Option.isSome_none] at eL
          clear hf hne
          go_wp2_with fail
          refine bodyPost_ret (v := .tuple #[.agg #[.string ⟨#[]⟩, .slice none 0 0, .slice none 0 0, .slice none 0 0], .int .i64 3]) (by simp [results, Tryd.results4, go_sem, x0, x1, x2, x3]) rfl ?_
          exact ⟨_, _, _, rfl, put4L_nil _ _ _ _, put4L_nil _ _ _ _, put4L_nil _ _ _ _, put4L_below HB.out _ _ _ _⟩
        | some ks =>
          rw [hf] at eL
          simp only [fmS, Option.isSome_some] at eL
          have hz := fs_size ld ks
          by_cases hl : ks.length = r.length
          · have HG : Hid (fin x (go ks r [] [] []) = Z) := Lib.hid ((cmd_fin hne hf hl).symm.trans HZ.out)
            have HK := Lib.hid (frm_form hf)
            have l1 : (((fs ld ks).size : Int) != (L : Int) - 1) = false := by have := hLH.out; rw [bne_eq_false_iff_eq]; omega
            have hzH := Lib.hid hz
            have hlH := Lib.hid hl
            have l5 : (fs ld ks).size ≤ 3 := by rw [hz]; exact (frm_form hf).1
            clear hf hne hz hl
            obtain ⟨F, hF⟩ : ∃ F, fs ld ks = F := ⟨_, rfl⟩
            have HFb : Hid (∀ j (h : j < ks.length), byteAt F j = (ld ks[j]).toNat) := Lib.hid (fun j h => by rw [← hF]; exact fs_byte ld ks j h)
            rw [hF] at l1 hzH eL l5
            clear hF
            go_wp2_with fail
            have HM0 := Lib.hid (cmL_new m11 x F)
            clear hx e1 e2 e3 e4 e5 e6 e7 e8 e9 e10 e11 eL
            go_loopw [] (fun wr => ∃ (j : Nat) (vn vb vq : Value) (N : List Int) (B : List ByteArray) (Q : List Int), j ≤ F.size ∧ N.length ≤ j ∧ B.length ≤ j ∧ (j = 0 → Q = [] ∧ vq = .slice none 0 0) ∧ Hid (go (ks.drop j) (r.drop j) N B Q = go ks r [] [] []) ∧ Hid (CM m11 m11.heap.size (m11.heap.size + 2) (some (.stringIter F j)) x vn vb vq N B Q wr)) (fun wr => itLeft (m11.heap.size + 1) wr)
            case atStart => exact ⟨0, _, _, _, [], [], [], Nat.zero_le _, Nat.le_refl _, Nat.le_refl _, fun _ => ⟨rfl, rfl⟩, Lib.hid rfl, HM0⟩
            case round =>
              obtain ⟨j, vn, vb, vq, N, B, Q, hj, hN, hBl, hq0, hgo, HMR⟩ := hrel
              clear HM0
              by_cases hlt : j < F.size
              · have hjk : j < ks.length := by rw [← hzH.out]; exact hlt
                have hjr : j < r.length := hlH.out ▸ hjk
                have hd1 := List.drop_eq_getElem_cons hjk
                have hd2 := List.drop_eq_getElem_cons hjr
                have hfb := HFb.out j hjk
                have hk3 := HK.out.2.1 ks[j] (List.getElem_mem hjk)
                have hk2 : ks[j] = 2 → j = 0 := fun e => HK.out.2.2 j (by rw [List.getElem?_eq_getElem hjk, e])
                have hnx := fun ty => Lib.run_next_any_at (P := Tryd.prog) wr (m11.heap.size + 1) F j ty (HMR.out.ix _ rfl).2 hlt
                have has : byteAt F j < 128 := by
                  rw [hfb]
                  rcases (show ks[j] = 0 ∨ ks[j] = 1 ∨ ks[j] = 2 by omega) with e | e | e <;> rw [e] <;> decide
                rw [dec_ascii F j has] at hnx
                have HM := Lib.hid (CM.next (p' := j + 1) HMR.out)
                have hct : (wr.iterAt (m11.heap.size + 1) F (j + 1)).cell? ⟨g, j + 1, none⟩ = some (.string r[j]) := keepCell HM.out.bel (hcell.out (j + 1) (Nat.succ_lt_succ hjr))
                have hts : r[j].size ≤ 1000 := hwx.out _ (List.mem_cons_of_mem _ (List.getElem_mem hjr))
                have hgo2 := hgo.out
                rw [hd1, hd2] at hgo2
                generalize ks[j] = k at *
                generalize r[j] = t at *
                have hb := byteAt_eq F j hlt
                rw [hfb] at hb
                have hrn : byteAt F j ≤ 255 := by have := byteAt_lt F j; omega
                generalize byteAt F j = rn at *
                have i1 : (0 : Int) ≤ (j : Int) := by omega
                have i2 : (j : Int) < (F.size : Int) := by omega
                have i3 : (0 : Int) ≤ (j : Int) + 1 := by omega
                have i4 : (j : Int) + 1 < (L : Int) := by have := hLH.out; have := hlH.out; omega
                have j3 : j ≤ 3 := by omega
                obtain ⟨an, pn, rfl⟩ := HM.out.on.len
                obtain ⟨ab, pb, rfl⟩ := HM.out.ob.len
                rw [i64s_len, strs_len] at HM HMR
                have HX := Lib.hid (show _ ∧ _ ∧ _ ∧ _ ∧ _ ∧ _ ∧ _ ∧ _ from ⟨x0, x1, x2, x3, f0, f1, f2, f3⟩)
                clear hd1 hd2 hfb hgo x0 x1 x2 x3 f0 f1 f2 f3 has
                obtain ⟨wi, hwi⟩ : ∃ wi, wr.iterAt (m11.heap.size + 1) F (j + 1) = wi := ⟨_, rfl⟩
                rw [hwi] at hnx HM hct
                clear hwi
                rcases (show k = 0 ∨ k = 1 ∨ k = 2 by omega) with rfl | rfl | rfl
                · have e1 : ((F[j].toNat : Int) == 78) = true := by rw [hb]; rfl
                  have C : Hid (∀ W, Calls Tryd.prog 10 #[.string t] W fun e w' => e = .returned (.tuple #[.int .i64 (num t), .int .i64 (nume t)]) ∧ Below W.heap.size W w') := Lib.hid (fun W => docNumber_any t hts W)
                  clear hb hk2
                  by_cases he : nume t = 0
                  · rw [he] at C
                    rw [go_num he] at hgo2
                    have HGO := Lib.hid hgo2
                    clear he hgo2
                    go_wp2_with fail
                    refine (C.out _).mono ?_; rintro e A1 ⟨rfl, hB1⟩
                    have HM1 := HM.out.below hB1
                    have c1 := HM1.c1
                    have g1 := HM1.fz 1
                    have HMA := Lib.hid (HM1.alloc (.cells #[.int .i64 (num t)] 3))
                    have L1 : Hid ((i64s N).length + 1 ≤ 1000000000000) := Lib.hid (by rw [i64s_len]; omega)
                    have L2 : Hid (((i64s N).length + 1) * 8 ≤ 1000000000000) := Lib.hid (by rw [i64s_len]; omega)
                    clear HM1 hB1
                    go_wp2_with (at_builtin; refine own_append1 rfl _ _ 22 rfl (m11.heap.size + 2) 3 (.int .i64 0) 8 Tryd.underlying22 infoInt rfl _ _ rfl HMA.out.on A1.heap.size 1 (.int .i64 (num t)) rfl (new_cell _ _ _) rfl L2.out L1.out HMA.out.sz ?_; intro v' w5 ho hg hb5 hor; rw [i64s_snoc] at ho; obtain ⟨x', c', hv'⟩ := ho.len; rw [i64s_len, List.length_append, List.length_singleton] at hv'; subst hv'; have HR := Lib.hid (HMA.out.numset hg ho hor); have c1' := HR.out.1; have g1' := HR.out.2.1; clear ho hg hb5 hor c1 g1)
                    go_roundw
                    case rel => exact ⟨j + 1, _, _, _, N ++ [num t], B, Q, hlt, by simp; omega, by omega, fun h => absurd h (by omega), HGO, Lib.hid HR.out.2.2⟩
                    case measure => rw [itLeft_eq (HR.out.2.2.ix _ rfl).2, itLeft_eq (HMR.out.ix _ rfl).2]; omega
                  · have he1 : (nume t != 0) = true := by rw [bne_iff_ne]; exact he
                    rw [go_num_bad he] at hgo2
                    obtain rfl : Z = bad := by rw [← HG.out, ← hgo2]; rfl
                    generalize nume t = z at *
                    clear he hgo2
                    go_wp2_with fail
                    refine (C.out _).mono ?_; rintro e A1 ⟨rfl, hB1⟩
                    have HM1 := Lib.hid (HM.out.below hB1)
                    have k5 := HM1.out.bel
                    have x0 := keepCell k5 HX.out.1
                    have x1 := keepCell k5 HX.out.2.1
                    have x2 := keepCell k5 HX.out.2.2.1
                    have x3 := keepCell k5 HX.out.2.2.2.1
                    have f0 := keepFree k5 HX.out.1 HX.out.2.2.2.2.1
                    have f1 := keepFree k5 HX.out.2.1 HX.out.2.2.2.2.2.1
                    have f2 := keepFree k5 HX.out.2.2.1 HX.out.2.2.2.2.2.2.1
                    have f3 := keepFree k5 HX.out.2.2.2.1 HX.out.2.2.2.2.2.2.2
                    clear k5
                    clear hB1
                    go_wp2_with fail
                    refine bodyPost_ret (v := .tuple #[.agg #[.string ⟨#[]⟩, .slice none 0 0, .slice none 0 0, .slice none 0 0], .int .i64 3]) (by simp [results, Tryd.results4, go_sem, x0, x1, x2, x3]) rfl ?_
                    exact ⟨_, _, _, rfl, put4L_nil _ _ _ _, put4L_nil _ _ _ _, put4L_nil _ _ _ _, put4L_below (HB.out.trans (HM1.out.bel.mono HB.out.size)) _ _ _ _⟩
                · have e1 : ((F[j].toNat : Int) == 78) = false := by rw [hb]; rfl
                  have e2 : ((F[j].toNat : Int) == 66) = true := by rw [hb]; rfl
                  clear hb hk2
                  by_cases hd : t.toList = [45]
                  · have e3 : (t.toList != [45]) = false := by rw [hd]; rfl
                    have e4 : (t.toList == [45]) = true := by rw [hd]; rfl
                    rw [go_byt (b := ⟨#[]⟩) (if_pos hd)] at hgo2
                    have HGO := Lib.hid hgo2
                    have HMB := HM
                    have c1 := HMB.out.c2
                    have g1 := HMB.out.fz 2
                    have HMA := Lib.hid (HMB.out.alloc (.cells #[.string (⟨#[]⟩)] 9))
                    have L1 : Hid ((strs B).length + 1 ≤ 1000000000000) := Lib.hid (by rw [strs_len]; omega)
                    have L2 : Hid (((strs B).length + 1) * 16 ≤ 1000000000000) := Lib.hid (by rw [strs_len]; omega)
                    clear hd hgo2
                    go_wp2_with (at_builtin; refine own_append1 rfl _ _ 23 rfl (m11.heap.size + 2) 9 (.string ⟨#[]⟩) 16 Tryd.underlying23 infoStr rfl _ _ rfl HMA.out.ob (wi.heap.size) 1 (.string (⟨#[]⟩)) rfl (new_cell _ _ _) rfl L2.out L1.out HMA.out.sz ?_; intro v' w5 ho hg hb5 hor; rw [strs_snoc] at ho; obtain ⟨x', c', hv'⟩ := ho.len; rw [strs_len, List.length_append, List.length_singleton] at hv'; subst hv'; have HR := Lib.hid (HMA.out.bytset hg ho hor); have c1' := HR.out.1; have g1' := HR.out.2.1; clear ho hg hb5 hor c1 g1)
                    go_roundw
                    case rel => exact ⟨j + 1, _, _, _, N, B ++ [⟨#[]⟩], Q, hlt, by omega, by simp; omega, fun h => absurd h (by omega), HGO, Lib.hid HR.out.2.2⟩
                    case measure => rw [itLeft_eq (HR.out.2.2.ix _ rfl).2, itLeft_eq (HMR.out.ix _ rfl).2]; omega
                  · have e3 : (t.toList != [45]) = true := by rw [bne_iff_ne]; exact hd
                    have e4 : (t.toList == [45]) = false := by rw [beq_eq_false_iff_ne]; exact hd
                    have hbt : byt t = if (un t).err = 0 then some (un t).str else none := if_neg hd
                    have C := Lib.hid (fun W => docUnhex_any t hts W)
                    change Hid (∀ W, Calls _ _ _ W fun e w' => e = .returned (.tuple #[.string (un t).str, .agg #[.int .i64 (un t).err, .int .i64 (un t).at_]]) ∧ Below W.heap.size W w') at C
                    have CI := Lib.hid (fun W => is_any (un t).err (un t).at_ W)
                    generalize (un t).err = z at *
                    generalize (un t).at_ = y at *
                    generalize (un t).str = b at *
                    by_cases hz : z = 0
                    · subst hz
                      rw [if_pos rfl] at hbt
                      rw [go_byt hbt] at hgo2
                      have HGO := Lib.hid hgo2
                      clear hd hgo2 hbt
                      go_wp2_with fail
                      refine (C.out _).mono ?_; rintro e A1 ⟨rfl, hB1⟩
                      have HM1 := HM.out.alloc (.cells #[.int .i64 0, .int .i64 0] 44)
                      have HM2 := HM1.below hB1
                      have u0 : A1.cell? ⟨wi.heap.size, 0, none⟩ = some (.int .i64 0) := (hB1.cell (p := ⟨wi.heap.size, 0, none⟩) (by simp)).trans (by simp)
                      have u1 : A1.cell? ⟨wi.heap.size, 1, none⟩ = some (.int .i64 0) := (hB1.cell (p := ⟨wi.heap.size, 1, none⟩) (by simp)).trans (by simp)
                      have v0 : A1.frozen? ⟨wi.heap.size, 0, none⟩ = false := (hB1.frozen (p := ⟨wi.heap.size, 0, none⟩) (by simp)).trans (by simp)
                      have v1 : A1.frozen? ⟨wi.heap.size, 1, none⟩ = false := (hB1.frozen (p := ⟨wi.heap.size, 1, none⟩) (by simp)).trans (by simp)
                      have HM3 := Lib.hid (HM.out.fresh (HM.out.fresh HM2 (Nat.le_refl _) 0 (.int .i64 0)) (Nat.le_refl _) 1 (.int .i64 y))
                      clear HM1 HM2 hB1
                      go_wp2_with fail
                      refine (CI.out _).mono ?_; rintro e w9 ⟨rfl, hB2⟩
                      have HM5 := Lib.hid (HM3.out.below hB2)
                      clear hB2 u0 u1 v0 v1
                      have HMB := HM5
                      have c1 := HMB.out.c2
                      have g1 := HMB.out.fz 2
                      have HMA := Lib.hid (HMB.out.alloc (.cells #[.string (b)] 9))
                      have L1 : Hid ((strs B).length + 1 ≤ 1000000000000) := Lib.hid (by rw [strs_len]; omega)
                      have L2 : Hid (((strs B).length + 1) * 16 ≤ 1000000000000) := Lib.hid (by rw [strs_len]; omega)
                      go_wp2_with (at_builtin; refine own_append1 rfl _ _ 23 rfl (m11.heap.size + 2) 9 (.string ⟨#[]⟩) 16 Tryd.underlying23 infoStr rfl _ _ rfl HMA.out.ob (w9.heap.size) 1 (.string (b)) rfl (new_cell _ _ _) rfl L2.out L1.out HMA.out.sz ?_; intro v' w5 ho hg hb5 hor; rw [strs_snoc] at ho; obtain ⟨x', c', hv'⟩ := ho.len; rw [strs_len, List.length_append, List.length_singleton] at hv'; subst hv'; have HR := Lib.hid (HMA.out.bytset hg ho hor); have c1' := HR.out.1; have g1' := HR.out.2.1; clear ho hg hb5 hor c1 g1)
                      go_roundw
                      case rel => exact ⟨j + 1, _, _, _, N, B ++ [b], Q, hlt, by omega, by simp; omega, fun h => absurd h (by omega), HGO, Lib.hid HR.out.2.2⟩
                      case measure => rw [itLeft_eq (HR.out.2.2.ix _ rfl).2, itLeft_eq (HMR.out.ix _ rfl).2]; omega
                    · rw [if_neg hz] at hbt
                      rw [go_byt_bad hbt] at hgo2
                      obtain rfl : Z = bad := by rw [← HG.out, ← hgo2]; rfl
                      have hz1 : (z == 0) = false := by rw [beq_eq_false_iff_ne]; exact hz
                      clear hd hgo2 hbt hz
                      go_wp2_with fail
                      refine (C.out _).mono ?_; rintro e A1 ⟨rfl, hB1⟩
                      have HM1 := HM.out.alloc (.cells #[.int .i64 0, .int .i64 0] 44)
                      have HM2 := HM1.below hB1
                      have u0 : A1.cell? ⟨wi.heap.size, 0, none⟩ = some (.int .i64 0) := (hB1.cell (p := ⟨wi.heap.size, 0, none⟩) (by simp)).trans (by simp)
                      have u1 : A1.cell? ⟨wi.heap.size, 1, none⟩ = some (.int .i64 0) := (hB1.cell (p := ⟨wi.heap.size, 1, none⟩) (by simp)).trans (by simp)
                      have v0 : A1.frozen? ⟨wi.heap.size, 0, none⟩ = false := (hB1.frozen (p := ⟨wi.heap.size, 0, none⟩) (by simp)).trans (by simp)
                      have v1 : A1.frozen? ⟨wi.heap.size, 1, none⟩ = false := (hB1.frozen (p := ⟨wi.heap.size, 1, none⟩) (by simp)).trans (by simp)
                      have HM3 := Lib.hid (HM.out.fresh (HM.out.fresh HM2 (Nat.le_refl _) 0 (.int .i64 z)) (Nat.le_refl _) 1 (.int .i64 y))
                      clear HM1 HM2 hB1
                      go_wp2_with fail
                      refine (CI.out _).mono ?_; rintro e w9 ⟨rfl, hB2⟩
                      have HM5 := Lib.hid (HM3.out.below hB2)
                      clear hB2 u0 u1 v0 v1
                      have k5 := HM5.out.bel
                      have x0 := keepCell k5 HX.out.1
                      have x1 := keepCell k5 HX.out.2.1
                      have x2 := keepCell k5 HX.out.2.2.1
                      have x3 := keepCell k5 HX.out.2.2.2.1
                      have f0 := keepFree k5 HX.out.1 HX.out.2.2.2.2.1
                      have f1 := keepFree k5 HX.out.2.1 HX.out.2.2.2.2.2.1
                      have f2 := keepFree k5 HX.out.2.2.1 HX.out.2.2.2.2.2.2.1
                      have f3 := keepFree k5 HX.out.2.2.2.1 HX.out.2.2.2.2.2.2.2
                      clear k5
                      go_wp2_with fail
                      refine bodyPost_ret (v := .tuple #[.agg #[.string ⟨#[]⟩, .slice none 0 0, .slice none 0 0, .slice none 0 0], .int .i64 3]) (by simp [results, Tryd.results4, go_sem, x0, x1, x2, x3]) rfl ?_
                      exact ⟨_, _, _, rfl, put4L_nil _ _ _ _, put4L_nil _ _ _ _, put4L_nil _ _ _ _, put4L_below (HB.out.trans (HM5.out.bel.mono HB.out.size)) _ _ _ _⟩
                · have e1 : ((F[j].toNat : Int) == 78) = false := by rw [hb]; rfl
                  have e2 : ((F[j].toNat : Int) == 66) = false := by rw [hb]; rfl
                  obtain rfl := hk2 rfl
                  obtain ⟨rfl, rfl⟩ := hq0 rfl
                  clear hb hk2 hq0
                  by_cases hd : t.toList = [45]
                  · have e3 : (t.toList != [45]) = false := by rw [hd]; rfl
                    have e4 : (t.toList == [45]) = true := by rw [hd]; rfl
                    rw [go_way (q := []) (if_pos hd)] at hgo2
                    have HGO := Lib.hid hgo2
                    clear hd hgo2
                    go_wp2_with fail
                    go_roundw
                    case rel => exact ⟨1, _, _, _, N, B, [], hlt, by omega, by omega, fun h => absurd h (by omega), HGO, HM⟩
                    case measure => rw [itLeft_eq (HM.out.ix _ rfl).2, itLeft_eq (HMR.out.ix _ rfl).2]; omega
                  · have e3 : (t.toList != [45]) = true := by rw [bne_iff_ne]; exact hd
                    have e4 : (t.toList == [45]) = false := by rw [beq_eq_false_iff_ne]; exact hd
                    have hpt : pth t = pt (Spl.PS 46 t) [] := if_neg hd
                    have hM1 := PS_many 46 t
                    have SPL := Tryd.strings_Split t (Spl.sp 46) m wi (by omega) (HM9.out wi (HB.out.trans (HM.out.bel.mono HB.out.size))) (Nat.le_refl _)
                    rw [← Spl.PS_len 46 t] at SPL
                    change Calls _ _ _ _ fun e w' => _ ∧ w' = World.alloc _ (.cells ((Spl.PS 46 t).map Value.string).toArray _) at SPL
                    have HPS : Hid (∀ a (h : a < (Spl.PS 46 t).length), (Spl.PS 46 t)[a].size ≤ 1000) := Lib.hid (fun a h => Nat.le_trans (PS_small 46 t a h) hts)
                    generalize Spl.PS 46 t = P at *
                    have hPl : P.length ≤ 1001 := by omega
                    have HSPL := Lib.hid SPL
                    have HPT := Lib.hid hpt
                    have HMA := Lib.hid (HM.out.alloc (.cells (P.map Value.string).toArray 9))
                    have HC1 : Hid (∀ a (h : a < P.length), (wi.alloc (.cells (P.map Value.string).toArray 9)).cell? ⟨wi.heap.size, a, none⟩ = some (.string P[a])) := Lib.hid (fun a ha => by
                      rw [World.cell?_alloc_at _ _ _ _ rfl]
                      simp [ha])
                    have HZ1 : Hid ((wi.alloc (.cells (P.map Value.string).toArray 9)).heap.size = wi.heap.size + 1) := Lib.hid (by rw [World.size_alloc])
                    have CP := Lib.hid (fun W => Pow.pow2_is 62 (by decide) (by decide) 4611686018427387904 (by decide) W)
                    have HGO1 := Lib.hid hgo2
                    have hHw : Hid (m11.heap.size + 2 ≤ wi.heap.size) := Lib.hid HM.out.sz
                    clear SPL hpt hd hgo2 hM1
                    go_wp2_with fail
                    refine HSPL.out.mono ?_; rintro e A1 ⟨rfl, rfl⟩
                    clear HSPL
                    generalize wi.alloc (.cells (P.map Value.string).toArray 9) = A1 at *
                    go_wp2_with fail
                    go_loopw [124] (fun i wq => ∃ (a : Nat) (vq : Value) (Q : List Int), a ≤ P.length ∧ i = .int .i64 (a : Int) ∧ Q.length ≤ a ∧ Hid (pt (P.drop a) Q = pt P []) ∧ Hid (CM m11 m11.heap.size (m11.heap.size + 2) (some (.stringIter F (0 + 1))) x (.slice an N.length pn) (.slice ab B.length pb) vq N B Q wq) ∧ Hid (Own wq (wi.heap.size + 1) 3 vq (i64s Q)) ∧ Hid (wq.heap[wi.heap.size]? = A1.heap[wi.heap.size]? ∧ wi.heap.size < wq.heap.size)) (fun i _ => P.length - (intOf i).toNat)
                    case atStart => exact ⟨0, _, [], Nat.zero_le _, rfl, Nat.le_refl _, Lib.hid rfl, HMA, Lib.hid (own_nil _ _ _), Lib.hid ⟨rfl, by have := HZ1.out; omega⟩⟩
                    case round =>
                      obtain ⟨a, vq, Q, ha, rfl, hQ, hp, HM2, HO2, HP2⟩ := hrel
                      clear HMA HM
                      by_cases hal : a < P.length
                      · have hdr := List.drop_eq_getElem_cons hal
                        have hc : wr.cell? ⟨wi.heap.size, a, none⟩ = some (.string P[a]) := (World.cell?_of_block (a := ⟨wi.heap.size, a, none⟩) HP2.out.1).trans (HC1.out a hal)
                        have hps := HPS.out a hal
                        have hpt2 := hp.out
                        rw [hdr] at hpt2
                        generalize P[a] = p at *
                        have a1 : (0 : Int) ≤ (a : Int) := by omega
                        have a2 : (a : Int) < (P.length : Int) := by omega
                        have C : Hid (∀ W, Calls Tryd.prog 14 #[.string p, .int .i64 10] W fun e w' => e = .returned (.tuple #[.int .u64 (pv p 10 : Nat), .int .i64 (pe p 10)]) ∧ Below W.heap.size W w') := Lib.hid (fun W => docParse_yes p 10 (by decide) hps W)
                        have hv := pv_lt p 10
                        obtain ⟨aq, pq, rfl⟩ := HO2.out.len
                        rw [i64s_len] at HO2 HM2
                        clear hdr hp
                        by_cases he : pe p 10 = 0
                        · rw [pt_go he] at hpt2
                          rw [he] at C
                          have hr62 : ((pv p 10 : Nat) : Int) % 4611686018427387904 = ((pv p 10 % 4611686018427387904 : Nat) : Int) := by omega
                          have hr63 : pv p 10 % 4611686018427387904 < 4611686018427387904 := Nat.mod_lt _ (by decide)
                          generalize pv p 10 = y at *
                          generalize y % 4611686018427387904 = c at *
                          have HPT2 := Lib.hid hpt2
                          clear he hpt2
                          go_wp2_with fail
                          refine (C.out _).mono ?_; rintro e B1 ⟨rfl, hB1⟩
                          have HM3 := Lib.hid (HM2.out.below hB1)
                          have HO3 := Lib.hid (HO2.out.below hB1)
                          have HP3 : Hid (B1.heap[wi.heap.size]? = A1.heap[wi.heap.size]? ∧ wi.heap.size < B1.heap.size) := Lib.hid ⟨(hB1.block _ HP2.out.2).trans HP2.out.1, Nat.lt_of_lt_of_le HP2.out.2 hB1.size⟩
                          have c3 := HM3.out.c3
                          have g3 := HM3.out.fz 3
                          have L1 : Hid ((i64s Q).length + 1 ≤ 1000000000000) := Lib.hid (by rw [i64s_len]; omega)
                          have L2 : Hid (((i64s Q).length + 1) * 8 ≤ 1000000000000) := Lib.hid (by rw [i64s_len]; omega)
                          clear hB1
                          have c5 := (HM3.out.alloc (.cells #[.int .i64 (IntKind.i64.wrap (((y : Nat) : Int).tmod 4611686018427387904))] 3)).c3
                          go_wp2_with fail
                          go_region_law (first
                            | (go_simp; go_at_call 15; refine (CP.out _).mono ?_; rintro e w' ⟨rfl, rfl⟩)
                            | (refine own_append_step (by rfl) _ _ 22 (by rfl) (wi.heap.size + 1) 3 (.int .i64 0) 8 Tryd.underlying22 infoInt rfl _ _ (by rfl) (by first | exact (HO3.out.drew).alloc _ | exact (HO3.out.alloc _).drew) _ 1 _ _ (by rfl) rfl (by first | exact World.news_of_block (heap_alloc_new _ _) | exact World.news_of_block (heap_alloc_new B1 _)) (by simp [Value.oneCell']) L2.out L1.out (by first | exact le_alloc (w := B1.drew) HP3.out.2 _ | exact le_alloc (w := B1) HP3.out.2 _) ?_; intro v1 w5 ho hg hb5 hor; have ho2 := way_snoc ho hr62 hr63; obtain ⟨x', c', hv'⟩ := ho2.len; rw [i64s_len, List.length_append, List.length_singleton] at hv'; subst hv'; have HR := Lib.hid (upd_way HM3.out HO3.out HP3.out hHw.out hg ho2 hor); have c3' := HR.out.1; have g3' := HR.out.2.1; clear ho ho2 hg hb5 hor c3 g3 c5))
                          all_goals
                            go_wp2_with fail
                            go_roundw
                            case rel => exact ⟨a + 1, _, Q ++ [(c : Int)], by omega, by go_num, by simp; omega, HPT2, Lib.hid HR.out.2.2.1, Lib.hid HR.out.2.2.2.1, Lib.hid HR.out.2.2.2.2⟩
                            case measure => simp [intOf]; omega
                        · rw [pt_bad he] at hpt2
                          have he1 : (pe p 10 != 0) = true := by rw [bne_iff_ne]; exact he
                          have hpn : pth t = none := HPT.out.trans hpt2.symm
                          have hgo3 := HGO1.out
                          rw [go_way_bad hpn] at hgo3
                          obtain rfl : Z = bad := by rw [← HG.out, ← hgo3]; rfl
                          generalize pv p 10 = y at *
                          generalize pe p 10 = z at *
                          clear he hpt2 hpn hgo3
                          go_wp2_with fail
                          refine (C.out _).mono ?_; rintro e B1 ⟨rfl, hB1⟩
                          have HM3 := Lib.hid (HM2.out.below hB1)
                          have k5 := HM3.out.bel
                          have x0 := keepCell k5 HX.out.1
                          have x1 := keepCell k5 HX.out.2.1
                          have x2 := keepCell k5 HX.out.2.2.1
                          have x3 := keepCell k5 HX.out.2.2.2.1
                          have f0 := keepFree k5 HX.out.1 HX.out.2.2.2.2.1
                          have f1 := keepFree k5 HX.out.2.1 HX.out.2.2.2.2.2.1
                          have f2 := keepFree k5 HX.out.2.2.1 HX.out.2.2.2.2.2.2.1
                          have f3 := keepFree k5 HX.out.2.2.2.1 HX.out.2.2.2.2.2.2.2
                          clear k5
                          clear hB1
                          go_wp2_with fail
                          refine bodyPost_ret (v := .tuple #[.agg #[.string ⟨#[]⟩, .slice none 0 0, .slice none 0 0, .slice none 0 0], .int .i64 3]) (by simp [results, Tryd.results4, go_sem, x0, x1, x2, x3]) rfl ?_
                          exact ⟨_, _, _, rfl, put4L_nil _ _ _ _, put4L_nil _ _ _ _, put4L_nil _ _ _ _, put4L_below (HB.out.trans (HM3.out.bel.mono HB.out.size)) _ _ _ _⟩
                      · obtain rfl : a = P.length := by omega
                        have hp2 := hp.out
                        rw [List.drop_length] at hp2
                        have hpn : pth t = some Q := HPT.out.trans hp2.symm
                        have hgo3 := HGO1.out
                        rw [go_way hpn] at hgo3
                        have HGO := Lib.hid hgo3
                        clear hp hp2 hpn hgo3
                        go_wp2_with fail
                        go_roundw
                        case rel => exact ⟨1, _, _, vq, N, B, Q, hlt, by omega, by omega, fun h => absurd h (by omega), HGO, HM2⟩
                        case measure => rw [itLeft_eq (HM2.out.ix _ rfl).2, itLeft_eq (HMR.out.ix _ rfl).2]; omega
              · obtain rfl : j = F.size := by omega
                have hnx := fun ty => Lib.run_next_end_at (P := Tryd.prog) wr (m11.heap.size + 1) F F.size ty (HMR.out.ix _ rfl).2 hlt
                have hgo2 := hgo.out
                rw [List.drop_eq_nil_of_le (Nat.le_of_eq hzH.out.symm), go_end] at hgo2
                obtain rfl : Z = ⟨0, x, N, B, Q⟩ := by rw [← HG.out, ← hgo2]; rfl
                obtain ⟨an, pn, rfl⟩ := HMR.out.on.len
                obtain ⟨ab, pb, rfl⟩ := HMR.out.ob.len
                obtain ⟨aq, pq, rfl⟩ := HMR.out.oq.len
                rw [i64s_len, i64s_len, strs_len] at HMR
                have c0 := HMR.out.c0
                have c1 := HMR.out.c1
                have c2 := HMR.out.c2
                have c3 := HMR.out.c3
                have hb3 := HMR.out.bel
                replace f0 := keepFree hb3 x0 f0
                replace f1 := keepFree hb3 x1 f1
                replace f2 := keepFree hb3 x2 f2
                replace f3 := keepFree hb3 x3 f3
                replace x0 := keepCell hb3 x0
                replace x1 := keepCell hb3 x1
                replace x2 := keepCell hb3 x2
                replace x3 := keepCell hb3 x3
                clear hb3 hgo2 hgo hq0
                go_wp2_with fail
                refine bodyPost_ret (v := .tuple #[.agg #[.string x, .slice an N.length pn, .slice ab B.length pb, .slice aq Q.length pq], .int .i64 0]) (by simp [results, Tryd.results4, go_sem, x0, x1, x2, x3]) rfl ?_
                have hWH : W.heap.size < m11.heap.size + 2 := by have := HB.out.size; rw [madeL_size] at this; omega
                exact ⟨_, _, _, rfl, put4L_own HMR.out.on hWH _ _ _ _, put4L_own HMR.out.ob hWH _ _ _ _, put4L_own HMR.out.oq hWH _ _ _ _, put4L_below (HB.out.trans (HMR.out.bel.mono HB.out.size)) _ _ _ _⟩
          · obtain rfl : Z = bad := HZ.out.symm.trans (cmd_len hne hf hl)
            have l1 : (((fs ld ks).size : Int) != (L : Int) - 1) = true := by have := hLH.out; rw [bne_iff_ne]; omega
            have l5 : (fs ld ks).size ≤ 3 := by rw [hz]; exact (frm_form hf).1
            clear hf hne hz hl
            go_wp2_with fail
            refine bodyPost_ret (v := .tuple #[.agg #[.string ⟨#[]⟩, .slice none 0 0, .slice none 0 0, .slice none 0 0], .int .i64 3]) (by simp [results, Tryd.results4, go_sem, x0, x1, x2, x3]) rfl ?_
            exact ⟨_, _, _, rfl, put4L_nil _ _ _ _, put4L_nil _ _ _ _, put4L_nil _ _ _ _, put4L_below HB.out _ _ _ _⟩
    · have l3 : ((L : Int) == 1) = false := by
        rw [beq_eq_false_iff_ne]
        have : 0 < r.length := List.length_pos_iff.2 hr
        have := hLH.out
        omega
      have hne : r = [] → nume x ≠ 0 := fun h => absurd h hr
      clear hr C1
      have hOM : OM (w2.alloc (.map #[] 0)) w2.heap.size 0 D0 := World.ownsMap_made w2 Tryd.prog 9 (plainElem Tryd.prog 9)
      obtain ⟨m1, m2, m3, m4, m5, m6, m7, m8, m9, m10, m11, e1, e2, e3, e4, e5, e6, e7, e8, e9, e10, e11, eL, hgm⟩ := forms_made _ _ hOM x hxs
      have hb3 : Below w2.heap.size w2 m11 := ((Below.refl _ _).alloc (Nat.le_refl _) _).grown hgm (by rw [World.size_alloc]; omega) (fun k e => by cases e; exact Nat.le_refl _)
      clear hOM hgm
      replace f0 := keepFree hb3 x0 f0
      replace f1 := keepFree hb3 x1 f1
      replace f2 := keepFree hb3 x2 f2
      replace f3 := keepFree hb3 x3 f3
      replace x0 := keepCell hb3 x0
      replace x1 := keepCell hb3 x1
      replace x2 := keepCell hb3 x2
      replace x3 := keepCell hb3 x3
      replace HB := Lib.hid (HB.out.trans (hb3.mono HB.out.size))
      replace hx := keepCell hb3 hx
      replace hcell := Lib.hid (fun j (h : j < (x :: r).length) => keepCell hb3 (hcell.out j h))
      replace hA2 := Nat.lt_of_lt_of_le hA2 hb3.size
      replace mW : ¬ W.heap.size = m11.heap.size := by have := HB.out.size; rw [madeL_size] at this; omega
      clear hb3
      cases hf : frm x.toList with
      | none =>
        obtain rfl : Z = bad := HZ.out.symm.trans (cmd_none hne hf)
        rw [hf] at eL
        simp only [fmS, Option.isSome_none] at eL
        clear hf hne
        go_wp2_with fail
        refine bodyPost_ret (v := .tuple #[.agg #[.string ⟨#[]⟩, .slice none 0 0, .slice none 0 0, .slice none 0 0], .int .i64 3]) (by simp [results, Tryd.results4, go_sem, x0, x1, x2, x3]) rfl ?_
        exact ⟨_, _, _, rfl, put4L_nil _ _ _ _, put4L_nil _ _ _ _, put4L_nil _ _ _ _, put4L_below HB.out _ _ _ _⟩
      | some ks =>
        rw [hf] at eL
        simp only [fmS, Option.isSome_some] at eL
        have hz := fs_size ld ks
        by_cases hl : ks.length = r.length
        · have HG : Hid (fin x (go ks r [] [] []) = Z) := Lib.hid ((cmd_fin hne hf hl).symm.trans HZ.out)
          have HK := Lib.hid (frm_form hf)
          have l1 : (((fs ld ks).size : Int) != (L : Int) - 1) = false := by have := hLH.out; rw [bne_eq_false_iff_eq]; omega
          have hzH := Lib.hid hz
          have hlH := Lib.hid hl
          have l5 : (fs ld ks).size ≤ 3 := by rw [hz]; exact (frm_form hf).1
          clear hf hne hz hl
          obtain ⟨F, hF⟩ : ∃ F, fs ld ks = F := ⟨_, rfl⟩
          have HFb : Hid (∀ j (h : j < ks.length), byteAt F j = (ld ks[j]).toNat) := Lib.hid (fun j h => by rw [← hF]; exact fs_byte ld ks j h)
          rw [hF] at l1 hzH eL l5
          clear hF
          go_wp2_with fail
          have HM0 := Lib.hid (cmL_new m11 x F)
          clear hx e1 e2 e3 e4 e5 e6 e7 e8 e9 e10 e11 eL
          go_loopw [] (fun wr => ∃ (j : Nat) (vn vb vq : Value) (N : List Int) (B : List ByteArray) (Q : List Int), j ≤ F.size ∧ N.length ≤ j ∧ B.length ≤ j ∧ (j = 0 → Q = [] ∧ vq = .slice none 0 0) ∧ Hid (go (ks.drop j) (r.drop j) N B Q = go ks r [] [] []) ∧ Hid (CM m11 m11.heap.size (m11.heap.size + 2) (some (.stringIter F j)) x vn vb vq N B Q wr)) (fun wr => itLeft (m11.heap.size + 1) wr)
          case atStart => exact ⟨0, _, _, _, [], [], [], Nat.zero_le _, Nat.le_refl _, Nat.le_refl _, fun _ => ⟨rfl, rfl⟩, Lib.hid rfl, HM0⟩
          case round =>
            obtain ⟨j, vn, vb, vq, N, B, Q, hj, hN, hBl, hq0, hgo, HMR⟩ := hrel
            clear HM0
            by_cases hlt : j < F.size
            · have hjk : j < ks.length := by rw [← hzH.out]; exact hlt
              have hjr : j < r.length := hlH.out ▸ hjk
              have hd1 := List.drop_eq_getElem_cons hjk
              have hd2 := List.drop_eq_getElem_cons hjr
              have hfb := HFb.out j hjk
              have hk3 := HK.out.2.1 ks[j] (List.getElem_mem hjk)
              have hk2 : ks[j] = 2 → j = 0 := fun e => HK.out.2.2 j (by rw [List.getElem?_eq_getElem hjk, e])
              have hnx := fun ty => Lib.run_next_any_at (P := Tryd.prog) wr (m11.heap.size + 1) F j ty (HMR.out.ix _ rfl).2 hlt
              have has : byteAt F j < 128 := by
                rw [hfb]
                rcases (show ks[j] = 0 ∨ ks[j] = 1 ∨ ks[j] = 2 by omega) with e | e | e <;> rw [e] <;> decide
              rw [dec_ascii F j has] at hnx
              have HM := Lib.hid (CM.next (p' := j + 1) HMR.out)
              have hct : (wr.iterAt (m11.heap.size + 1) F (j + 1)).cell? ⟨g, j + 1, none⟩ = some (.string r[j]) := keepCell HM.out.bel (hcell.out (j + 1) (Nat.succ_lt_succ hjr))
              have hts : r[j].size ≤ 1000 := hwx.out _ (List.mem_cons_of_mem _ (List.getElem_mem hjr))
              have hgo2 := hgo.out
              rw [hd1, hd2] at hgo2
              generalize ks[j] = k at *
              generalize r[j] = t at *
              have hb := byteAt_eq F j hlt
              rw [hfb] at hb
              have hrn : byteAt F j ≤ 255 := by have := byteAt_lt F j; omega
              generalize byteAt F j = rn at *
              have i1 : (0 : Int) ≤ (j : Int) := by omega
              have i2 : (j : Int) < (F.size : Int) := by omega
              have i3 : (0 : Int) ≤ (j : Int) + 1 := by omega
              have i4 : (j : Int) + 1 < (L : Int) := by have := hLH.out; have := hlH.out; omega
              have j3 : j ≤ 3 := by omega
              obtain ⟨an, pn, rfl⟩ := HM.out.on.len
              obtain ⟨ab, pb, rfl⟩ := HM.out.ob.len
              rw [i64s_len, strs_len] at HM HMR
              have HX := Lib.hid (show _ ∧ _ ∧ _ ∧ _ ∧ _ ∧ _ ∧ _ ∧ _ from ⟨x0, x1, x2, x3, f0, f1, f2, f3⟩)
              clear hd1 hd2 hfb hgo x0 x1 x2 x3 f0 f1 f2 f3 has
              obtain ⟨wi, hwi⟩ : ∃ wi, wr.iterAt (m11.heap.size + 1) F (j + 1) = wi := ⟨_, rfl⟩
              rw [hwi] at hnx HM hct
              clear hwi
              rcases (show k = 0 ∨ k = 1 ∨ k = 2 by omega) with rfl | rfl | rfl
              · have e1 : ((F[j].toNat : Int) == 78) = true := by rw [hb]; rfl
                have C : Hid (∀ W, Calls Tryd.prog 10 #[.string t] W fun e w' => e = .returned (.tuple #[.int .i64 (num t), .int .i64 (nume t)]) ∧ Below W.heap.size W w') := Lib.hid (fun W => docNumber_any t hts W)
                clear hb hk2
                by_cases he : nume t = 0
                · rw [he] at C
                  rw [go_num he] at hgo2
                  have HGO := Lib.hid hgo2
                  clear he hgo2
                  go_wp2_with fail
                  refine (C.out _).mono ?_; rintro e A1 ⟨rfl, hB1⟩
                  have HM1 := HM.out.below hB1
                  have c1 := HM1.c1
                  have g1 := HM1.fz 1
                  have HMA := Lib.hid (HM1.alloc (.cells #[.int .i64 (num t)] 3))
                  have L1 : Hid ((i64s N).length + 1 ≤ 1000000000000) := Lib.hid (by rw [i64s_len]; omega)
                  have L2 : Hid (((i64s N).length + 1) * 8 ≤ 1000000000000) := Lib.hid (by rw [i64s_len]; omega)
                  clear HM1 hB1
                  go_wp2_with (at_builtin; refine own_append1 rfl _ _ 22 rfl (m11.heap.size + 2) 3 (.int .i64 0) 8 Tryd.underlying22 infoInt rfl _ _ rfl HMA.out.on A1.heap.size 1 (.int .i64 (num t)) rfl (new_cell _ _ _) rfl L2.out L1.out HMA.out.sz ?_; intro v' w5 ho hg hb5 hor; rw [i64s_snoc] at ho; obtain ⟨x', c', hv'⟩ := ho.len; rw [i64s_len, List.length_append, List.length_singleton] at hv'; subst hv'; have HR := Lib.hid (HMA.out.numset hg ho hor); have c1' := HR.out.1; have g1' := HR.out.2.1; clear ho hg hb5 hor c1 g1)
                  go_roundw
                  case rel => exact ⟨j + 1, _, _, _, N ++ [num t], B, Q, hlt, by simp; omega, by omega, fun h => absurd h (by omega), HGO, Lib.hid HR.out.2.2⟩
                  case measure => rw [itLeft_eq (HR.out.2.2.ix _ rfl).2, itLeft_eq (HMR.out.ix _ rfl).2]; omega
                · have he1 : (nume t != 0) = true := by rw [bne_iff_ne]; exact he
                  rw [go_num_bad he] at hgo2
                  obtain rfl : Z = bad := by rw [← HG.out, ← hgo2]; rfl
                  generalize nume t = z at *
                  clear he hgo2
                  go_wp2_with fail
                  refine (C.out _).mono ?_; rintro e A1 ⟨rfl, hB1⟩
                  have HM1 := Lib.hid (HM.out.below hB1)
                  have k5 := HM1.out.bel
                  have x0 := keepCell k5 HX.out.1
                  have x1 := keepCell k5 HX.out.2.1
                  have x2 := keepCell k5 HX.out.2.2.1
                  have x3 := keepCell k5 HX.out.2.2.2.1
                  have f0 := keepFree k5 HX.out.1 HX.out.2.2.2.2.1
                  have f1 := keepFree k5 HX.out.2.1 HX.out.2.2.2.2.2.1
                  have f2 := keepFree k5 HX.out.2.2.1 HX.out.2.2.2.2.2.2.1
                  have f3 := keepFree k5 HX.out.2.2.2.1 HX.out.2.2.2.2.2.2.2
                  clear k5
                  clear hB1
                  go_wp2_with fail
                  refine bodyPost_ret (v := .tuple #[.agg #[.string ⟨#[]⟩, .slice none 0 0, .slice none 0 0, .slice none 0 0], .int .i64 3]) (by simp [results, Tryd.results4, go_sem, x0, x1, x2, x3]) rfl ?_
                  exact ⟨_, _, _, rfl, put4L_nil _ _ _ _, put4L_nil _ _ _ _, put4L_nil _ _ _ _, put4L_below (HB.out.trans (HM1.out.bel.mono HB.out.size)) _ _ _ _⟩
              · have e1 : ((F[j].toNat : Int) == 78) = false := by rw [hb]; rfl
                have e2 : ((F[j].toNat : Int) == 66) = true := by rw [hb]; rfl
                clear hb hk2
                by_cases hd : t.toList = [45]
                · have e3 : (t.toList != [45]) = false := by rw [hd]; rfl
                  have e4 : (t.toList == [45]) = true := by rw [hd]; rfl
                  rw [go_byt (b := ⟨#[]⟩) (if_pos hd)] at hgo2
                  have HGO := Lib.hid hgo2
                  have HMB := HM
                  have c1 := HMB.out.c2
                  have g1 := HMB.out.fz 2
                  have HMA := Lib.hid (HMB.out.alloc (.cells #[.string (⟨#[]⟩)] 9))
                  have L1 : Hid ((strs B).length + 1 ≤ 1000000000000) := Lib.hid (by rw [strs_len]; omega)
                  have L2 : Hid (((strs B).length + 1) * 16 ≤ 1000000000000) := Lib.hid (by rw [strs_len]; omega)
                  clear hd hgo2
                  go_wp2_with (at_builtin; refine own_append1 rfl _ _ 23 rfl (m11.heap.size + 2) 9 (.string ⟨#[]⟩) 16 Tryd.underlying23 infoStr rfl _ _ rfl HMA.out.ob (wi.heap.size) 1 (.string (⟨#[]⟩)) rfl (new_cell _ _ _) rfl L2.out L1.out HMA.out.sz ?_; intro v' w5 ho hg hb5 hor; rw [strs_snoc] at ho; obtain ⟨x', c', hv'⟩ := ho.len; rw [strs_len, List.length_append, List.length_singleton] at hv'; subst hv'; have HR := Lib.hid (HMA.out.bytset hg ho hor); have c1' := HR.out.1; have g1' := HR.out.2.1; clear ho hg hb5 hor c1 g1)
                  go_roundw
                  case rel => exact ⟨j + 1, _, _, _, N, B ++ [⟨#[]⟩], Q, hlt, by omega, by simp; omega, fun h => absurd h (by omega), HGO, Lib.hid HR.out.2.2⟩
                  case measure => rw [itLeft_eq (HR.out.2.2.ix _ rfl).2, itLeft_eq (HMR.out.ix _ rfl).2]; omega
                · have e3 : (t.toList != [45]) = true := by rw [bne_iff_ne]; exact hd
                  have e4 : (t.toList == [45]) = false := by rw [beq_eq_false_iff_ne]; exact hd
                  have hbt : byt t = if (un t).err = 0 then some (un t).str else none := if_neg hd
                  have C := Lib.hid (fun W => docUnhex_any t hts W)
                  change Hid (∀ W, Calls _ _ _ W fun e w' => e = .returned (.tuple #[.string (un t).str, .agg #[.int .i64 (un t).err, .int .i64 (un t).at_]]) ∧ Below W.heap.size W w') at C
                  have CI := Lib.hid (fun W => is_any (un t).err (un t).at_ W)
                  generalize (un t).err = z at *
                  generalize (un t).at_ = y at *
                  generalize (un t).str = b at *
                  by_cases hz : z = 0
                  · subst hz
                    rw [if_pos rfl] at hbt
                    rw [go_byt hbt] at hgo2
                    have HGO := Lib.hid hgo2
                    clear hd hgo2 hbt
                    go_wp2_with fail
                    refine (C.out _).mono ?_; rintro e A1 ⟨rfl, hB1⟩
                    have HM1 := HM.out.alloc (.cells #[.int .i64 0, .int .i64 0] 44)
                    have HM2 := HM1.below hB1
                    have u0 : A1.cell? ⟨wi.heap.size, 0, none⟩ = some (.int .i64 0) := (hB1.cell (p := ⟨wi.heap.size, 0, none⟩) (by simp)).trans (by simp)
                    have u1 : A1.cell? ⟨wi.heap.size, 1, none⟩ = some (.int .i64 0) := (hB1.cell (p := ⟨wi.heap.size, 1, none⟩) (by simp)).trans (by simp)
                    have v0 : A1.frozen? ⟨wi.heap.size, 0, none⟩ = false := (hB1.frozen (p := ⟨wi.heap.size, 0, none⟩) (by simp)).trans (by simp)
                    have v1 : A1.frozen? ⟨wi.heap.size, 1, none⟩ = false := (hB1.frozen (p := ⟨wi.heap.size, 1, none⟩) (by simp)).trans (by simp)
                    have HM3 := Lib.hid (HM.out.fresh (HM.out.fresh HM2 (Nat.le_refl _) 0 (.int .i64 0)) (Nat.le_refl _) 1 (.int .i64 y))
                    clear HM1 HM2 hB1
                    go_wp2_with fail
                    refine (CI.out _).mono ?_; rintro e w9 ⟨rfl, hB2⟩
                    have HM5 := Lib.hid (HM3.out.below hB2)
                    clear hB2 u0 u1 v0 v1
                    have HMB := HM5
                    have c1 := HMB.out.c2
                    have g1 := HMB.out.fz 2
                    have HMA := Lib.hid (HMB.out.alloc (.cells #[.string (b)] 9))
                    have L1 : Hid ((strs B).length + 1 ≤ 1000000000000) := Lib.hid (by rw [strs_len]; omega)
                    have L2 : Hid (((strs B).length + 1) * 16 ≤ 1000000000000) := Lib.hid (by rw [strs_len]; omega)
                    go_wp2_with (at_builtin; refine own_append1 rfl _ _ 23 rfl (m11.heap.size + 2) 9 (.string ⟨#[]⟩) 16 Tryd.underlying23 infoStr rfl _ _ rfl HMA.out.ob (w9.heap.size) 1 (.string (b)) rfl (new_cell _ _ _) rfl L2.out L1.out HMA.out.sz ?_; intro v' w5 ho hg hb5 hor; rw [strs_snoc] at ho; obtain ⟨x', c', hv'⟩ := ho.len; rw [strs_len, List.length_append, List.length_singleton] at hv'; subst hv'; have HR := Lib.hid (HMA.out.bytset hg ho hor); have c1' := HR.out.1; have g1' := HR.out.2.1; clear ho hg hb5 hor c1 g1)
                    go_roundw
                    case rel => exact ⟨j + 1, _, _, _, N, B ++ [b], Q, hlt, by omega, by simp; omega, fun h => absurd h (by omega), HGO, Lib.hid HR.out.2.2⟩
                    case measure => rw [itLeft_eq (HR.out.2.2.ix _ rfl).2, itLeft_eq (HMR.out.ix _ rfl).2]; omega
                  · rw [if_neg hz] at hbt
                    rw [go_byt_bad hbt] at hgo2
                    obtain rfl : Z = bad := by rw [← HG.out, ← hgo2]; rfl
                    have hz1 : (z == 0) = false := by rw [beq_eq_false_iff_ne]; exact hz
                    clear hd hgo2 hbt hz
                    go_wp2_with fail
                    refine (C.out _).mono ?_; rintro e A1 ⟨rfl, hB1⟩
                    have HM1 := HM.out.alloc (.cells #[.int .i64 0, .int .i64 0] 44)
                    have HM2 := HM1.below hB1
                    have u0 : A1.cell? ⟨wi.heap.size, 0, none⟩ = some (.int .i64 0) := (hB1.cell (p := ⟨wi.heap.size, 0, none⟩) (by simp)).trans (by simp)
                    have u1 : A1.cell? ⟨wi.heap.size, 1, none⟩ = some (.int .i64 0) := (hB1.cell (p := ⟨wi.heap.size, 1, none⟩) (by simp)).trans (by simp)
                    have v0 : A1.frozen? ⟨wi.heap.size, 0, none⟩ = false := (hB1.frozen (p := ⟨wi.heap.size, 0, none⟩) (by simp)).trans (by simp)
                    have v1 : A1.frozen? ⟨wi.heap.size, 1, none⟩ = false := (hB1.frozen (p := ⟨wi.heap.size, 1, none⟩) (by simp)).trans (by simp)
                    have HM3 := Lib.hid (HM.out.fresh (HM.out.fresh HM2 (Nat.le_refl _) 0 (.int .i64 z)) (Nat.le_refl _) 1 (.int .i64 y))
                    clear HM1 HM2 hB1
                    go_wp2_with fail
                    refine (CI.out _).mono ?_; rintro e w9 ⟨rfl, hB2⟩
                    have HM5 := Lib.hid (HM3.out.below hB2)
                    clear hB2 u0 u1 v0 v1
                    have k5 := HM5.out.bel
                    have x0 := keepCell k5 HX.out.1
                    have x1 := keepCell k5 HX.out.2.1
                    have x2 := keepCell k5 HX.out.2.2.1
                    have x3 := keepCell k5 HX.out.2.2.2.1
                    have f0 := keepFree k5 HX.out.1 HX.out.2.2.2.2.1
                    have f1 := keepFree k5 HX.out.2.1 HX.out.2.2.2.2.2.1
                    have f2 := keepFree k5 HX.out.2.2.1 HX.out.2.2.2.2.2.2.1
                    have f3 := keepFree k5 HX.out.2.2.2.1 HX.out.2.2.2.2.2.2.2
                    clear k5
                    go_wp2_with fail
                    refine bodyPost_ret (v := .tuple #[.agg #[.string ⟨#[]⟩, .slice none 0 0, .slice none 0 0, .slice none 0 0], .int .i64 3]) (by simp [results, Tryd.results4, go_sem, x0, x1, x2, x3]) rfl ?_
                    exact ⟨_, _, _, rfl, put4L_nil _ _ _ _, put4L_nil _ _ _ _, put4L_nil _ _ _ _, put4L_below (HB.out.trans (HM5.out.bel.mono HB.out.size)) _ _ _ _⟩
              · have e1 : ((F[j].toNat : Int) == 78) = false := by rw [hb]; rfl
                have e2 : ((F[j].toNat : Int) == 66) = false := by rw [hb]; rfl
                obtain rfl := hk2 rfl
                obtain ⟨rfl, rfl⟩ := hq0 rfl
                clear hb hk2 hq0
                by_cases hd : t.toList = [45]
                · have e3 : (t.toList != [45]) = false := by rw [hd]; rfl
                  have e4 : (t.toList == [45]) = true := by rw [hd]; rfl
                  rw [go_way (q := []) (if_pos hd)] at hgo2
                  have HGO := Lib.hid hgo2
                  clear hd hgo2
                  go_wp2_with fail
                  go_roundw
                  case rel => exact ⟨1, _, _, _, N, B, [], hlt, by omega, by omega, fun h => absurd h (by omega), HGO, HM⟩
                  case measure => rw [itLeft_eq (HM.out.ix _ rfl).2, itLeft_eq (HMR.out.ix _ rfl).2]; omega
                · have e3 : (t.toList != [45]) = true := by rw [bne_iff_ne]; exact hd
                  have e4 : (t.toList == [45]) = false := by rw [beq_eq_false_iff_ne]; exact hd
                  have hpt : pth t = pt (Spl.PS 46 t) [] := if_neg hd
                  have hM1 := PS_many 46 t
                  have SPL := Tryd.strings_Split t (Spl.sp 46) m wi (by omega) (HM9.out wi (HB.out.trans (HM.out.bel.mono HB.out.size))) (Nat.le_refl _)
                  rw [← Spl.PS_len 46 t] at SPL
                  change Calls _ _ _ _ fun e w' => _ ∧ w' = World.alloc _ (.cells ((Spl.PS 46 t).map Value.string).toArray _) at SPL
                  have HPS : Hid (∀ a (h : a < (Spl.PS 46 t).length), (Spl.PS 46 t)[a].size ≤ 1000) := Lib.hid (fun a h => Nat.le_trans (PS_small 46 t a h) hts)
                  generalize Spl.PS 46 t = P at *
                  have hPl : P.length ≤ 1001 := by omega
                  have HSPL := Lib.hid SPL
                  have HPT := Lib.hid hpt
                  have HMA := Lib.hid (HM.out.alloc (.cells (P.map Value.string).toArray 9))
                  have HC1 : Hid (∀ a (h : a < P.length), (wi.alloc (.cells (P.map Value.string).toArray 9)).cell? ⟨wi.heap.size, a, none⟩ = some (.string P[a])) := Lib.hid (fun a ha => by
                    rw [World.cell?_alloc_at _ _ _ _ rfl]
                    simp [ha])
                  have HZ1 : Hid ((wi.alloc (.cells (P.map Value.string).toArray 9)).heap.size = wi.heap.size + 1) := Lib.hid (by rw [World.size_alloc])
                  have CP := Lib.hid (fun W => Pow.pow2_is 62 (by decide) (by decide) 4611686018427387904 (by decide) W)
                  have HGO1 := Lib.hid hgo2
                  have hHw : Hid (m11.heap.size + 2 ≤ wi.heap.size) := Lib.hid HM.out.sz
                  clear SPL hpt hd hgo2 hM1
                  go_wp2_with fail
                  refine HSPL.out.mono ?_; rintro e A1 ⟨rfl, rfl⟩
                  clear HSPL
                  generalize wi.alloc (.cells (P.map Value.string).toArray 9) = A1 at *
                  go_wp2_with fail
                  go_loopw [124] (fun i wq => ∃ (a : Nat) (vq : Value) (Q : List Int), a ≤ P.length ∧ i = .int .i64 (a : Int) ∧ Q.length ≤ a ∧ Hid (pt (P.drop a) Q = pt P []) ∧ Hid (CM m11 m11.heap.size (m11.heap.size + 2) (some (.stringIter F (0 + 1))) x (.slice an N.length pn) (.slice ab B.length pb) vq N B Q wq) ∧ Hid (Own wq (wi.heap.size + 1) 3 vq (i64s Q)) ∧ Hid (wq.heap[wi.heap.size]? = A1.heap[wi.heap.size]? ∧ wi.heap.size < wq.heap.size)) (fun i _ => P.length - (intOf i).toNat)
                  case atStart => exact ⟨0, _, [], Nat.zero_le _, rfl, Nat.le_refl _, Lib.hid rfl, HMA, Lib.hid (own_nil _ _ _), Lib.hid ⟨rfl, by have := HZ1.out; omega⟩⟩
                  case round =>
                    obtain ⟨a, vq, Q, ha, rfl, hQ, hp, HM2, HO2, HP2⟩ := hrel
                    clear HMA HM
                    by_cases hal : a < P.length
                    · have hdr := List.drop_eq_getElem_cons hal
                      have hc : wr.cell? ⟨wi.heap.size, a, none⟩ = some (.string P[a]) := (World.cell?_of_block (a := ⟨wi.heap.size, a, none⟩) HP2.out.1).trans (HC1.out a hal)
                      have hps := HPS.out a hal
                      have hpt2 := hp.out
                      rw [hdr] at hpt2
                      generalize P[a] = p at *
                      have a1 : (0 : Int) ≤ (a : Int) := by omega
                      have a2 : (a : Int) < (P.length : Int) := by omega
                      have C : Hid (∀ W, Calls Tryd.prog 14 #[.string p, .int .i64 10] W fun e w' => e = .returned (.tuple #[.int .u64 (pv p 10 : Nat), .int .i64 (pe p 10)]) ∧ Below W.heap.size W w') := Lib.hid (fun W => docParse_yes p 10 (by decide) hps W)
                      have hv := pv_lt p 10
                      obtain ⟨aq, pq, rfl⟩ := HO2.out.len
                      rw [i64s_len] at HO2 HM2
                      clear hdr hp
                      by_cases he : pe p 10 = 0
                      · rw [pt_go he] at hpt2
                        rw [he] at C
                        have hr62 : ((pv p 10 : Nat) : Int) % 4611686018427387904 = ((pv p 10 % 4611686018427387904 : Nat) : Int) := by omega
                        have hr63 : pv p 10 % 4611686018427387904 < 4611686018427387904 := Nat.mod_lt _ (by decide)
                        generalize pv p 10 = y at *
                        generalize y % 4611686018427387904 = c at *
                        have HPT2 := Lib.hid hpt2
                        clear he hpt2
                        go_wp2_with fail
                        refine (C.out _).mono ?_; rintro e B1 ⟨rfl, hB1⟩
                        have HM3 := Lib.hid (HM2.out.below hB1)
                        have HO3 := Lib.hid (HO2.out.below hB1)
                        have HP3 : Hid (B1.heap[wi.heap.size]? = A1.heap[wi.heap.size]? ∧ wi.heap.size < B1.heap.size) := Lib.hid ⟨(hB1.block _ HP2.out.2).trans HP2.out.1, Nat.lt_of_lt_of_le HP2.out.2 hB1.size⟩
                        have c3 := HM3.out.c3
                        have g3 := HM3.out.fz 3
                        have L1 : Hid ((i64s Q).length + 1 ≤ 1000000000000) := Lib.hid (by rw [i64s_len]; omega)
                        have L2 : Hid (((i64s Q).length + 1) * 8 ≤ 1000000000000) := Lib.hid (by rw [i64s_len]; omega)
                        clear hB1
                        have c5 := (HM3.out.alloc (.cells #[.int .i64 (IntKind.i64.wrap (((y : Nat) : Int).tmod 4611686018427387904))] 3)).c3
                        go_wp2_with fail
                        go_region_law (first
                          | (go_simp; go_at_call 15; refine (CP.out _).mono ?_; rintro e w' ⟨rfl, rfl⟩)
                          | (refine own_append_step (by rfl) _ _ 22 (by rfl) (wi.heap.size + 1) 3 (.int .i64 0) 8 Tryd.underlying22 infoInt rfl _ _ (by rfl) (by first | exact (HO3.out.drew).alloc _ | exact (HO3.out.alloc _).drew) _ 1 _ _ (by rfl) rfl (by first | exact World.news_of_block (heap_alloc_new _ _) | exact World.news_of_block (heap_alloc_new B1 _)) (by simp [Value.oneCell']) L2.out L1.out (by first | exact le_alloc (w := B1.drew) HP3.out.2 _ | exact le_alloc (w := B1) HP3.out.2 _) ?_; intro v1 w5 ho hg hb5 hor; have ho2 := way_snoc ho hr62 hr63; obtain ⟨x', c', hv'⟩ := ho2.len; rw [i64s_len, List.length_append, List.length_singleton] at hv'; subst hv'; have HR := Lib.hid (upd_way HM3.out HO3.out HP3.out hHw.out hg ho2 hor); have c3' := HR.out.1; have g3' := HR.out.2.1; clear ho ho2 hg hb5 hor c3 g3 c5))
                        all_goals
                          go_wp2_with fail
                          go_roundw
                          case rel => exact ⟨a + 1, _, Q ++ [(c : Int)], by omega, by go_num, by simp; omega, HPT2, Lib.hid HR.out.2.2.1, Lib.hid HR.out.2.2.2.1, Lib.hid HR.out.2.2.2.2⟩
                          case measure => simp [intOf]; omega
                      · rw [pt_bad he] at hpt2
                        have he1 : (pe p 10 != 0) = true := by rw [bne_iff_ne]; exact he
                        have hpn : pth t = none := HPT.out.trans hpt2.symm
                        have hgo3 := HGO1.out
                        rw [go_way_bad hpn] at hgo3
                        obtain rfl : Z = bad := by rw [← HG.out, ← hgo3]; rfl
                        generalize pv p 10 = y at *
                        generalize pe p 10 = z at *
                        clear he hpt2 hpn hgo3
                        go_wp2_with fail
                        refine (C.out _).mono ?_; rintro e B1 ⟨rfl, hB1⟩
                        have HM3 := Lib.hid (HM2.out.below hB1)
                        have k5 := HM3.out.bel
                        have x0 := keepCell k5 HX.out.1
                        have x1 := keepCell k5 HX.out.2.1
                        have x2 := keepCell k5 HX.out.2.2.1
                        have x3 := keepCell k5 HX.out.2.2.2.1
                        have f0 := keepFree k5 HX.out.1 HX.out.2.2.2.2.1
                        have f1 := keepFree k5 HX.out.2.1 HX.out.2.2.2.2.2.1
                        have f2 := keepFree k5 HX.out.2.2.1 HX.out.2.2.2.2.2.2.1
                        have f3 := keepFree k5 HX.out.2.2.2.1 HX.out.2.2.2.2.2.2.2
                        clear k5
                        clear hB1
                        go_wp2_with fail
                        refine bodyPost_ret (v := .tuple #[.agg #[.string ⟨#[]⟩, .slice none 0 0, .slice none 0 0, .slice none 0 0], .int .i64 3]) (by simp [results, Tryd.results4, go_sem, x0, x1, x2, x3]) rfl ?_
                        exact ⟨_, _, _, rfl, put4L_nil _ _ _ _, put4L_nil _ _ _ _, put4L_nil _ _ _ _, put4L_below (HB.out.trans (HM3.out.bel.mono HB.out.size)) _ _ _ _⟩
                    · obtain rfl : a = P.length := by omega
                      have hp2 := hp.out
                      rw [List.drop_length] at hp2
                      have hpn : pth t = some Q := HPT.out.trans hp2.symm
                      have hgo3 := HGO1.out
                      rw [go_way hpn] at hgo3
                      have HGO := Lib.hid hgo3
                      clear hp hp2 hpn hgo3
                      go_wp2_with fail
                      go_roundw
                      case rel => exact ⟨1, _, _, vq, N, B, Q, hlt, by omega, by omega, fun h => absurd h (by omega), HGO, HM2⟩
                      case measure => rw [itLeft_eq (HM2.out.ix _ rfl).2, itLeft_eq (HMR.out.ix _ rfl).2]; omega
            · obtain rfl : j = F.size := by omega
              have hnx := fun ty => Lib.run_next_end_at (P := Tryd.prog) wr (m11.heap.size + 1) F F.size ty (HMR.out.ix _ rfl).2 hlt
              have hgo2 := hgo.out
              rw [List.drop_eq_nil_of_le (Nat.le_of_eq hzH.out.symm), go_end] at hgo2
              obtain rfl : Z = ⟨0, x, N, B, Q⟩ := by rw [← HG.out, ← hgo2]; rfl
              obtain ⟨an, pn, rfl⟩ := HMR.out.on.len
              obtain ⟨ab, pb, rfl⟩ := HMR.out.ob.len
              obtain ⟨aq, pq, rfl⟩ := HMR.out.oq.len
              rw [i64s_len, i64s_len, strs_len] at HMR
              have c0 := HMR.out.c0
              have c1 := HMR.out.c1
              have c2 := HMR.out.c2
              have c3 := HMR.out.c3
              have hb3 := HMR.out.bel
              replace f0 := keepFree hb3 x0 f0
              replace f1 := keepFree hb3 x1 f1
              replace f2 := keepFree hb3 x2 f2
              replace f3 := keepFree hb3 x3 f3
              replace x0 := keepCell hb3 x0
              replace x1 := keepCell hb3 x1
              replace x2 := keepCell hb3 x2
              replace x3 := keepCell hb3 x3
              clear hb3 hgo2 hgo hq0
              go_wp2_with fail
              refine bodyPost_ret (v := .tuple #[.agg #[.string x, .slice an N.length pn, .slice ab B.length pb, .slice aq Q.length pq], .int .i64 0]) (by simp [results, Tryd.results4, go_sem, x0, x1, x2, x3]) rfl ?_
              have hWH : W.heap.size < m11.heap.size + 2 := by have := HB.out.size; rw [madeL_size] at this; omega
              exact ⟨_, _, _, rfl, put4L_own HMR.out.on hWH _ _ _ _, put4L_own HMR.out.ob hWH _ _ _ _, put4L_own HMR.out.oq hWH _ _ _ _, put4L_below (HB.out.trans (HMR.out.bel.mono HB.out.size)) _ _ _ _⟩
        · obtain rfl : Z = bad := HZ.out.symm.trans (cmd_len hne hf hl)
          have l1 : (((fs ld ks).size : Int) != (L : Int) - 1) = true := by have := hLH.out; rw [bne_iff_ne]; omega
          have l5 : (fs ld ks).size ≤ 3 := by rw [hz]; exact (frm_form hf).1
          clear hf hne hz hl
          go_wp2_with fail
          refine bodyPost_ret (v := .tuple #[.agg #[.string ⟨#[]⟩, .slice none 0 0, .slice none 0 0, .slice none 0 0], .int .i64 3]) (by simp [results, Tryd.results4, go_sem, x0, x1, x2, x3]) rfl ?_
          exact ⟨_, _, _, rfl, put4L_nil _ _ _ _, put4L_nil _ _ _ _, put4L_nil _ _ _ _, put4L_below HB.out _ _ _ _⟩
end Go.Proofs.YtehmnohkfchljaaDoor.Ex
