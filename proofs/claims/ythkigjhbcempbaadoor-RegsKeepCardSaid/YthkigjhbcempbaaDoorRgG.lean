/-
  PROVED HERE: the program's registers and the document's side by side, each operation of both. Conditions: as each theorem states.
-/
import Derived.Test.YthkigjhbcempbaaDoorRgF
namespace Go.Proofs.YthkigjhbcempbaaDoor.Rg
open Go.RowKit
def isL (c : Nat) : Prop := (97 ≤ c ∧ c ≤ 122) ∨ c = 34
theorem nm_low {c : Nat} (h : nm c = true) : isL (low c) := by
  unfold nm at h
  rw [Bool.or_eq_true, decide_eq_true_eq, decide_eq_true_eq] at h
  exact h
theorem big_isL {c : Nat} (h : big c = true) : isL (low c) := by
  unfold big at h
  rw [decide_eq_true_eq] at h
  unfold low
  rw [if_pos h]
  exact .inl (by omega)
structure KRS (W w : World) (g r : Nat) (mo : Option Nat) (f : Nat → ByteArray) (n : Nat) (C : List ByteArray) (fd : Nat → ByteArray) (nd : Nat) : Prop where
  gr : GR w g mo f n C
  mp : Mp w r fd nd
  ag1 : ∀ c, isL c → fd c = f c
  ag2 : ∀ i (h : i < C.length), fd (49 + i) = C[i]
  sz1 : ∀ c, (f c).size ≤ 5000
  sz2 : ∀ c, (fd c).size ≤ 5000
  ne1 : r ≠ g
  ne2 : mo ≠ some r
  lo : W.heap.size ≤ g ∧ W.heap.size ≤ r ∧ ∀ b, mo = some b → W.heap.size ≤ b
  bw : Below W.heap.size W w
def KR (W w : World) (g r X : Nat) : Prop := ∃ mo f n C fd nd, KRS W w g r mo f n C fd nd ∧ mo ≠ some X ∧ X ≠ g ∧ X ≠ r ∧ X < w.heap.size
def KR0 (W w : World) (g r : Nat) : Prop := ∃ mo f n C fd nd, KRS W w g r mo f n C fd nd
section
variable {W w : World} {g r n nd X : Nat} {mo : Option Nat} {f fd : Nat → ByteArray} {C : List ByteArray}
theorem KRS.txt_is (h : KRS W w g r mo f n C fd nd) (c : Nat) (t : ByteArray) : txt fd c t = txt f c t := by
  unfold txt
  split
  · rename_i hb; rw [h.ag1 _ (big_isL hb)]
  · rfl
theorem KRS.code_is (h : KRS W w g r mo f n C fd nd) (c : Nat) (t : ByteArray) : code fd c t = code f c t := by
  unfold code; rw [h.txt_is]
theorem KRS.below {w1 : World} (h : KRS W w g r mo f n C fd nd) (hb : Below w.heap.size w w1) : KRS W w1 g r mo f n C fd nd :=
  ⟨h.gr.keeps (S := fun _ => False) (Keeps.below hb) (fun x => x) (fun _ _ x => x), h.mp.keeps (S := fun _ => False) (Keeps.below hb) (fun x => x), h.ag1, h.ag2, h.sz1, h.sz2, h.ne1, h.ne2, h.lo, h.bw.trans (hb.mono h.bw.size)⟩
theorem KRS.low (h : KRS W w g r mo f n C fd nd) : g < w.heap.size ∧ r < w.heap.size ∧ ∀ b, mo = some b → b < w.heap.size :=
  ⟨World.block_lt_of_cell? w _ h.gr.c0, h.mp.lt, fun b e => (h.gr.yes b e).2.lt⟩
theorem txt_size (h : KRS W w g r mo f n C fd nd) {c : Nat} {t : ByteArray} (hk : code f c t = 0) : nm c = true ∧ (txt f c t).size ≤ 4000 ∧ t.size ≤ 4000 := by
  unfold code at hk
  split at hk
  · exact absurd hk (by decide)
  · rename_i hn
    split at hk
    · exact absurd hk (by decide)
    · rename_i hs
      refine ⟨by simpa using hn, by omega, ?_⟩
      unfold txt at hs
      split at hs
      · rw [ByteArray.size_append] at hs; omega
      · omega
theorem put_agree (h : KRS W w g r mo f n C fd nd) (c : Nat) (t : ByteArray) :
    (∀ k, isL k → putF fd c t k = putF f c t k) ∧ (∀ i (hi : i < C.length), putF fd c t (49 + i) = C[i]) ∧ (∀ k, (putF f c t k).size ≤ 5000) ∧ ∀ k, (putF fd c t k).size ≤ 5000 := by
  unfold putF
  rw [h.code_is, h.txt_is]
  by_cases hk : code f c t = 0
  · rw [if_pos hk, if_pos hk]
    obtain ⟨hn, hs, _⟩ := txt_size h hk
    have hl := nm_low hn
    have hC := h.gr.len
    refine ⟨fun k hL => ?_, fun i hi => ?_, fun k => ?_, fun k => ?_⟩
    · unfold upd
      split
      · rfl
      · split
        · rfl
        · exact h.ag1 k hL
    · unfold upd
      rw [if_neg (by omega), if_neg (by rcases hl with hl | hl <;> omega)]
      exact h.ag2 i hi
    · unfold upd
      split
      · omega
      · split
        · omega
        · exact h.sz1 k
    · unfold upd
      split
      · omega
      · split
        · omega
        · exact h.sz2 k
  · rw [if_neg hk, if_neg hk]
    exact ⟨h.ag1, h.ag2, h.sz1, h.sz2⟩
/-- Both have turned. -/
theorem krs_step {w1 w2 : World} {mo' : Option Nat} {f' fd' : Nat → ByteArray} {C' : List ByteArray} {n' nd' : Nat} (h : KRS W w g r mo f n C fd nd)
    (p1 : GR w1 g mo' f' n' C') (k1 : Keeps (fun k => k = g ∨ mo = some k) w w1) (hm : ∀ b, mo' = some b → mo = some b ∨ w.heap.size ≤ b) (p2 : Mp w2 r fd' nd') (k2 : Keeps (fun k => k = r) w1 w2)
    (a1 : ∀ c, isL c → fd' c = f' c) (a2 : ∀ i (h : i < C'.length), fd' (49 + i) = C'[i]) (s1 : ∀ c, (f' c).size ≤ 5000) (s2 : ∀ c, (fd' c).size ≤ 5000) :
    KRS W w2 g r mo' f' n' C' fd' nd' ∧ (mo ≠ some X → X ≠ g → X ≠ r → X < w.heap.size → mo' ≠ some X ∧ X < w2.heap.size ∧ (∀ j u, w.cell? ⟨X, j, none⟩ = some u → w1.cell? ⟨X, j, none⟩ = some u) ∧ ∀ j u, w.cell? ⟨X, j, none⟩ = some u → w2.cell? ⟨X, j, none⟩ = some u) := by
  have hlo := h.low
  have hne : mo' ≠ some r := fun e => by
    rcases hm r e with h1 | h1
    · exact h.ne2 h1
    · omega
  have q1 := k1.toBelow W.heap.size h.bw.size (fun k hk => hk.elim (fun e => by rw [e]; exact h.lo.1) (fun e => h.lo.2.2 k e))
  have q2 := k2.toBelow W.heap.size (Nat.le_trans h.bw.size k1.size) (fun k hk => by rw [hk]; exact h.lo.2.1)
  refine ⟨⟨p1.keeps k2 (fun e => h.ne1 e.symm) (fun b e e2 => hne (by rw [e, e2])), p2, a1, a2, s1, s2, h.ne1, hne, ⟨h.lo.1, h.lo.2.1, fun b e => ?_⟩, (h.bw.trans q1).trans q2⟩, fun x1 x2 x3 x4 => ?_⟩
  · rcases hm b e with h1 | h1
    · exact h.lo.2.2 b h1
    · have := h.bw.size; omega
  · have s1 := k1.size
    have s2 := k2.size
    have kk : ∀ j u, w.cell? ⟨X, j, none⟩ = some u → w1.cell? ⟨X, j, none⟩ = some u := fun j u hc => k1.cell (p := ⟨X, j, none⟩) (fun e => e.elim x2 x1) hc
    refine ⟨fun e => ?_, by omega, kk, fun j u hc => k2.cell (p := ⟨X, j, none⟩) x3 (kk j u hc)⟩
    rcases hm X e with h1 | h1
    · exact x1 h1
    · omega
def RPair (W w : World) (g r X : Nat) (f2 : FuncId) (a2 : Array Value) (e : Ending) (w1 : World) : Prop :=
  ∃ (v : Value) (c : Int), e = .returned v ∧ (∀ w, Err.ErrIs w v c (-1)) ∧ (∀ j u, w.cell? ⟨X, j, none⟩ = some u → w1.cell? ⟨X, j, none⟩ = some u) ∧
    Calls Tryd.prog f2 a2 w1 (fun e2 w2 => e2 = .returned (.int .i64 c) ∧ KR W w2 g r X ∧ ∀ j u, w.cell? ⟨X, j, none⟩ = some u → w2.cell? ⟨X, j, none⟩ = some u)
theorem put_pair (h : KR W w g r X) (c : Nat) (hc : c < 256) (t : ByteArray) (ht : t.size ≤ 10000) :
    Calls Tryd.prog 7 #[.pointer (some ⟨g, 0, none⟩), .int .u8 c, .string t] w (RPair W w g r X 8 #[.map (some r), .int .u8 c, .string t]) := by
  obtain ⟨mo, f, n, C, fd, nd, h, x1, x2, x3, x4⟩ := h
  refine (put_any w g n mo f C c t h.gr hc (fun k _ => by have := h.sz1 k; omega) ht).mono fun e w1 ⟨mo', he, p1, k1, hm⟩ => ⟨_, code f c t, he, fun w => errV_is w _, fun j u hu => k1.cell (p := ⟨X, j, none⟩) (fun e => e.elim x2 x1) hu, ?_⟩
  have hM1 := h.mp.keeps k1 (fun e => e.elim h.ne1 h.ne2)
  refine (docPut_any w1 r nd fd c t hM1 hc (fun k _ => by have := h.sz2 k; omega) ht).mono fun e2 w2 ⟨he2, p2, k2⟩ => ?_
  obtain ⟨a1, a2, s1, s2⟩ := put_agree h c t
  obtain ⟨q1, q2⟩ := krs_step (X := X) h p1 k1 hm p2 k2 a1 a2 s1 s2
  obtain ⟨y1, y2, y3, y4⟩ := q2 x1 x2 x3 x4
  exact ⟨by rw [he2, h.code_is], ⟨_, _, _, _, _, _, q1, y1, x2, x3, y2⟩, y4⟩
theorem cut_pair (h : KR W w g r X) (c : Nat) (hc : c < 256) (t : ByteArray) (ht : t.size ≤ 4500) :
    Calls Tryd.prog 9 #[.pointer (some ⟨g, 0, none⟩), .int .u8 c, .string t] w (RPair W w g r X 10 #[.map (some r), .int .u8 c, .string t]) := by
  obtain ⟨mo, f, n, C, fd, nd, h, x1, x2, x3, x4⟩ := h
  refine (cut_any w g n mo f C c t h.gr hc (fun k _ => by have := h.sz1 k; omega) (by omega)).mono fun e w1 ⟨mo', he, p1, k1, hm⟩ => ⟨_, code f c t, he, fun w => errV_is w _, fun j u hu => k1.cell (p := ⟨X, j, none⟩) (fun e => e.elim x2 x1) hu, ?_⟩
  have hM1 := h.mp.keeps k1 (fun e => e.elim h.ne1 h.ne2)
  refine (docCut_any w1 r nd fd c t hM1 hc (fun k _ => by have := h.sz2 k; omega) (by omega)).mono fun e2 w2 ⟨he2, p2, k2⟩ => ?_
  obtain ⟨a1, a2, s1, s2⟩ := put_agree h c t
  have hC := h.gr.len
  have hall : (∀ k, isL k → cutF fd c t k = putF f c t k) ∧ (∀ i (hi : i < (if code f c t = 0 then t :: C.take 8 else C).length), cutF fd c t (49 + i) = (if code f c t = 0 then t :: C.take 8 else C)[i]) ∧ ∀ k, (cutF fd c t k).size ≤ 5000 := by
    unfold cutF
    rw [h.code_is]
    by_cases hk : code f c t = 0
    · simp only [hk, if_true]
      refine ⟨fun k hL => ?_, fun i hi => ?_, fun k => ?_⟩
      · unfold upd sh
        rw [if_neg (by rcases hL with hL | hL <;> omega), if_neg (by rcases hL with hL | hL <;> omega)]
        exact a1 k hL
      · cases i with
        | zero => unfold upd; rw [if_pos rfl]; rfl
        | succ i =>
          have hi' : i < 8 := by simp at hi; omega
          unfold upd sh
          rw [if_neg (by omega), if_pos (by omega), show 49 + (i + 1) - 1 = 49 + i by omega, a2 i (by omega)]
          simp
      · unfold upd sh
        split
        · omega
        · split
          · exact s2 _
          · exact s2 _
    · simp only [hk, if_false]
      exact ⟨a1, a2, s2⟩
  obtain ⟨b1, b2, b3⟩ := hall
  obtain ⟨q1, q2⟩ := krs_step (X := X) h p1 k1 hm p2 k2 b1 b2 s1 b3
  obtain ⟨y1, y2, y3, y4⟩ := q2 x1 x2 x3 x4
  exact ⟨by rw [he2, h.code_is], ⟨_, _, _, _, _, _, q1, y1, x2, x3, y2⟩, y4⟩
/-- What both give back. -/
theorem got_is (h : KRS W w g r mo f n C fd nd) (c : Nat) : got fd c = got2 f C c := by
  have hC := h.gr.len
  unfold got got2 ok
  by_cases hd : 49 ≤ c ∧ c ≤ 57
  · rw [if_pos hd, decide_eq_true hd, Bool.or_true, if_pos rfl, (low_dig c hd).1]
    have := h.ag2 (c - 49) (by omega)
    rw [show 49 + (c - 49) = c by omega] at this
    rw [this, List.getD_eq_getElem?_getD, List.getElem?_eq_getElem (by omega)]
    rfl
  · rw [if_neg hd, decide_eq_false hd, Bool.or_false]
    by_cases hn : nm c = true
    · rw [if_pos hn, if_pos hn, h.ag1 _ (nm_low hn)]
    · rw [if_neg hn, if_neg hn]
theorem get_both (h : KR0 W w g r) (c : Nat) (hc : c < 256) : ∃ (s : ByteArray) (k : Int), Calls Tryd.prog 11 #[.map (some r), .int .u8 c] w (fun e w' => e = .returned (.tuple #[.string s, .int .i64 k]) ∧ w = w') ∧
    Calls Tryd.prog 12 #[.pointer (some ⟨g, 0, none⟩), .int .u8 c] w (fun e w' => e = .returned (.tuple #[.string s, errV k]) ∧ w = w') := by
  obtain ⟨mo, f, n, C, fd, nd, h⟩ := h
  refine ⟨got fd c, gcode c, docGet_any w r nd fd c h.mp hc, ?_⟩
  rw [got_is h]
  exact get_any w g n mo f C c h.gr hc
end
end Go.Proofs.YthkigjhbcempbaaDoor.Rg
