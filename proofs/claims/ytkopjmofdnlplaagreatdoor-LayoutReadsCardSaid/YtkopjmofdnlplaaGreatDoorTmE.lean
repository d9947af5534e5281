/-
  PROVED HERE: the document's parser of expressions, plain: the eyes' state, and what each step makes of it; the eyes in memory, and the contracts of their small methods; the contracts of the eyes' small methods; the contracts of the eyes' pass, take, must, and of hold; the document's parser of expressions as a function, and expressions in memory. Conditions: as each theorem states.
-/
import Derived.Test.YtkopjmofdnlplaaGreatDoorTok
import Derived.Test.YtkopjmofdnlplaaGreatDoorLexB
import Derived.Test.YtkopjmofdnlplaaGreatDoorParE
import Derived.Test.YtkopjmofdnlplaaGreatDoorTac
import Derived.Test.YtkopjmofdnlplaaGreatDoorMem
import Derived.Lib.SlicesS
namespace Go.Proofs.YtkopjmofdnlplaaGreatDoor.Tm
open Go.RowKit Go.Proofs.YtkopjmofdnlplaaGreatDoor.Lex Go.Proofs.YtkopjmofdnlplaaGreatDoor.Dig
/-- The eyes: what is wrong (0: nothing) and where, and the tokens that are left. -/
structure Ey where
  c : Int
  a : Int
  l : List Tk
def emp : ByteArray := ⟨#[]⟩
def txt (σ : Ey) : ByteArray := if σ.c = 0 then (match σ.l with | [] => emp | t :: _ => t.text) else emp
def pos (E : Nat) (σ : Ey) : Nat := match σ.l with | [] => E | t :: _ => t.place
def wrong (σ : Ey) (e k : Int) : Ey := if σ.c = 0 then ⟨e, k, σ.l⟩ else σ
def pass (E : Nat) (σ : Ey) : Ey := if txt σ = emp then wrong σ 3 (pos E σ) else ⟨σ.c, σ.a, σ.l.tail⟩
def take (E : Nat) (σ : Ey) (s : ByteArray) : Ey := if txt σ = s then pass E σ else σ
def must (E : Nat) (σ : Ey) (s : ByteArray) : Ey := if txt σ = s then pass E σ else wrong σ 3 (pos E σ)
/-- No blank stands in it. -/
def Nob (s : ByteArray) : Prop := ∀ c ∈ s.data.toList, c ≠ 32
/-- Tokens as Lex makes them: none is empty, none far. -/
def AllT (l : List Tk) : Prop := ∀ t ∈ l, 0 < t.text.size ∧ t.text.size ≤ 1000 ∧ t.place ≤ 4000 ∧ Nob t.text
theorem AllT.tail {t : Tk} {l : List Tk} (h : AllT (t :: l)) : AllT l := fun x hx => h x (List.mem_cons_of_mem _ hx)
theorem AllT.tail' {l : List Tk} (h : AllT l) : AllT l.tail := by cases l with | nil => exact h | cons t r => exact h.tail
theorem txt_stop {σ : Ey} (h : σ.c ≠ 0) : txt σ = emp := if_neg h
theorem txt_nil {σ : Ey} (h : σ.l = []) : txt σ = emp := by unfold txt; rw [h]; split <;> rfl
theorem txt_cons {σ : Ey} {t : Tk} {r : List Tk} (h : σ.c = 0) (hl : σ.l = t :: r) : txt σ = t.text := by unfold txt; rw [if_pos h, hl]
theorem txt_size {σ : Ey} (h : AllT σ.l) : (txt σ).size ≤ 1000 := by
  unfold txt
  split
  · cases hl : σ.l with
    | nil => exact Nat.zero_le _
    | cons t r => rw [hl] at h; exact (h t (by simp)).2.1
  · exact Nat.zero_le _
theorem txt_nob {σ : Ey} (h : AllT σ.l) : Nob (txt σ) := by
  unfold txt
  split
  · cases hl : σ.l with
    | nil => intro c hc; simp [emp] at hc
    | cons t r => rw [hl] at h; exact (h t (by simp)).2.2.2
  · intro c hc; simp [emp] at hc
theorem pos_le {E : Nat} {σ : Ey} (hE : E ≤ 4000) (h : AllT σ.l) : pos E σ ≤ 4000 := by
  unfold pos
  cases hl : σ.l with
  | nil => exact hE
  | cons t r => rw [hl] at h; exact (h t (by simp)).2.2.1
/-- Where there is a text, there is a token and nothing is wrong. -/
theorem txt_some {σ : Ey} (h : txt σ ≠ emp) : σ.c = 0 ∧ ∃ t r, σ.l = t :: r ∧ txt σ = t.text := by
  by_cases hc : σ.c = 0
  · cases hl : σ.l with
    | nil => exact absurd (txt_nil hl) h
    | cons t r => exact ⟨hc, t, r, rfl, txt_cons hc hl⟩
  · exact absurd (txt_stop hc) h
theorem emp_iff {s : ByteArray} : s = emp ↔ s.size = 0 := by
  constructor
  · intro h; rw [h]; rfl
  · intro h
    apply ByteArray.ext
    exact Array.eq_empty_of_size_eq_zero h
theorem wrong_l (σ : Ey) (e k : Int) : (wrong σ e k).l = σ.l := by unfold wrong; split <;> rfl
theorem pass_all {E : Nat} {σ : Ey} (h : AllT σ.l) : AllT (pass E σ).l := by
  unfold pass; split
  · rw [wrong_l]; exact h
  · exact h.tail'
theorem take_all {E : Nat} {σ : Ey} {s : ByteArray} (h : AllT σ.l) : AllT (take E σ s).l := by
  unfold take; split
  · exact pass_all h
  · exact h
theorem must_all {E : Nat} {σ : Ey} {s : ByteArray} (h : AllT σ.l) : AllT (must E σ s).l := by
  unfold must; split
  · exact pass_all h
  · rw [wrong_l]; exact h
theorem wrong_all {σ : Ey} {e k : Int} (h : AllT σ.l) : AllT (wrong σ e k).l := by rw [wrong_l]; exact h
theorem pass_len (E : Nat) (σ : Ey) : (pass E σ).l.length ≤ σ.l.length := by
  unfold pass; split
  · rw [wrong_l]; exact Nat.le_refl _
  · simp
theorem take_len (E : Nat) (σ : Ey) (s : ByteArray) : (take E σ s).l.length ≤ σ.l.length := by
  unfold take; split
  · exact pass_len E σ
  · exact Nat.le_refl _
theorem must_len (E : Nat) (σ : Ey) (s : ByteArray) : (must E σ s).l.length ≤ σ.l.length := by
  unfold must; split
  · exact pass_len E σ
  · rw [wrong_l]; exact Nat.le_refl _
theorem wrong_len (σ : Ey) (e k : Int) : (wrong σ e k).l.length ≤ σ.l.length := by rw [wrong_l]; exact Nat.le_refl _
theorem pass_lt {E : Nat} {σ : Ey} (h : txt σ ≠ emp) : (pass E σ).l.length < σ.l.length := by
  obtain ⟨_, t, r, hl, _⟩ := txt_some h
  unfold pass; rw [if_neg h, hl]; simp
/-- An expression. -/
inductive Ex
  | num (k : Nat) (n : Int)
  | nam (k : Nat) (s : ByteArray)
  | bin (k : Nat) (op : ByteArray) (l r : Ex)
def Ex.nodes : Ex → Nat
  | .num _ _ => 1
  | .nam _ _ => 1
  | .bin _ _ l r => l.nodes + r.nodes + 1
def hold (s : ByteArray) : Nat :=
  if s = ⟨#[61, 61]⟩ ∨ s = ⟨#[33, 61]⟩ ∨ s = ⟨#[60]⟩ ∨ s = ⟨#[62]⟩ then 1
  else if s = ⟨#[43]⟩ ∨ s = ⟨#[45]⟩ ∨ s = ⟨#[124]⟩ then 2
  else if s = ⟨#[42]⟩ ∨ s = ⟨#[38]⟩ then 3 else 0
theorem hold_emp : hold emp = 0 := by decide
/-- What a number is, and what is wrong with it. -/
def numV (s : ByteArray) : Int := nv (nneg s) (pv (nu (nt s)) (nb (nt s))) (pe (nu (nt s)) (nb (nt s)))
def numE (s : ByteArray) : Int := ne (nneg s) (pv (nu (nt s)) (nb (nt s))) (pe (nu (nt s)) (nb (nt s)))
def isD (s : ByteArray) : Bool := match lst s with | [] => false | c :: _ => dgt c
end Go.Proofs.YtkopjmofdnlplaaGreatDoor.Tm
namespace Go.Proofs.YtkopjmofdnlplaaGreatDoor.Tm
open Go.RowKit Go.Proofs.YtkopjmofdnlplaaGreatDoor.Lex Go.Proofs.YtkopjmofdnlplaaGreatDoor.Dig
theorem gb_refl (w : World) (r : Option Nat) : w.grownBy w r := ⟨rfl, rfl, rfl, Nat.le_refl _, fun _ _ _ => rfl⟩
theorem gb_trans {w w1 w2 : World} {r : Option Nat} (h : w.grownBy w1 r) (g : w1.grownBy w2 r) : w.grownBy w2 r :=
  ⟨g.os.trans h.os, g.tape.trans h.tape, g.output.trans h.output, Nat.le_trans h.size g.size, fun k hk hr => (g.block k (Nat.lt_of_lt_of_le hk h.size) hr).trans (h.block k hk hr)⟩
theorem gb_below {w w1 : World} (r : Option Nat) (h : Below w.heap.size w w1) : w.grownBy w1 r := ⟨h.os, h.tape, h.output, h.size, fun k hk _ => h.block k hk⟩
theorem gb_set {w : World} {G j : Nat} {v : Value} : w.grownBy (w.setCell ⟨G, j, none⟩ v) (some G) :=
  ⟨rfl, rfl, rfl, by simp [World.setCell], fun k _ hr => Below.heap_setCell _ _ _ _ (fun e => hr (by rw [e]))⟩
theorem tks_kept {w w' : World} {v : Value} {l : List Tk} (h : Tks w v l) (hk : l ≠ [] → ∀ k, v.ownBlock = some k → w'.heap[k]? = w.heap[k]?) : Tks w' v l := by
  obtain ⟨a, cap, rfl, hl, hc⟩ := h
  refine ⟨a, cap, rfl, hl, fun j hj => ?_⟩
  obtain ⟨ad, rfl, h2, h3⟩ := hc j hj
  have e : w'.heap[ad.block]? = w.heap[ad.block]? := hk (fun e => by subst e; simp at hj) ad.block rfl
  have hb : ∀ m, (ad.add m).block = ad.block := fun m => by unfold Addr.add; split <;> rfl
  exact ⟨ad, rfl, (World.cell?_of_block (by rw [hb]; exact e)).trans h2, (World.cell?_of_block (by rw [hb]; exact e)).trans h3⟩
theorem tks_room {w : World} {v : Value} {l : List Tk} (h : Tks w v l) (hl : l ≠ []) : ∀ k, v.ownBlock = some k → k < w.heap.size := by
  obtain ⟨a, cap, rfl, _, hc⟩ := h
  obtain ⟨ad, rfl, h2, h3⟩ := hc 0 (List.length_pos_iff.2 hl)
  intro k hk
  have : (ad.add (0 * 2)).block < w.heap.size := World.block_lt_of_cell? w _ h2
  rw [show (ad.add (0 * 2)).block = ad.block by unfold Addr.add; simp] at this
  cases hk
  exact this
/-- The eyes in the block G, at the end E of the text. -/
structure PS (G E : Nat) (lv : Value) (σ : Ey) (w : World) : Prop where
  c0 : w.cell? ⟨G, 0, none⟩ = some lv
  c1 : w.cell? ⟨G, 1, none⟩ = some (.int .i64 (E : Nat))
  c2 : w.cell? ⟨G, 2, none⟩ = some (.int .i64 σ.c)
  c3 : w.cell? ⟨G, 3, none⟩ = some (.int .i64 σ.a)
  fz : ∀ j, w.frozen? ⟨G, j, none⟩ = false
  tk : Tks w lv σ.l
  nb : σ.l ≠ [] → ∀ k, lv.ownBlock = some k → k < G
  lt : G < w.heap.size
theorem PS.cap {G E : Nat} {lv : Value} {σ : Ey} {w : World} (h : PS G E lv σ w) : ∃ a c, lv = .slice a σ.l.length c ∧ σ.l.length ≤ c := by
  obtain ⟨a, c, e, hl, _⟩ := h.tk
  exact ⟨a, c, e, hl⟩
theorem PS.below {G E : Nat} {lv : Value} {σ : Ey} {w w' : World} (h : PS G E lv σ w) (hb : Below w.heap.size w w') : PS G E lv σ w' :=
  ⟨(hb.cell (p := ⟨G, 0, none⟩) h.lt).trans h.c0, (hb.cell (p := ⟨G, 1, none⟩) h.lt).trans h.c1, (hb.cell (p := ⟨G, 2, none⟩) h.lt).trans h.c2, (hb.cell (p := ⟨G, 3, none⟩) h.lt).trans h.c3, fun j => by
    rw [World.frozen?_of_block (a := ⟨G, j, none⟩) (hb.block G h.lt)]; exact h.fz j, tks_kept h.tk (fun hl k hk => hb.block k (tks_room h.tk hl k hk)), h.nb, Nat.lt_of_lt_of_le h.lt hb.size⟩
/-- What is wrong, stored. -/
theorem PS.put {G E : Nat} {lv : Value} {σ : Ey} {w : World} (h : PS G E lv σ w) (c a : Int) : PS G E lv ⟨c, a, σ.l⟩ ((w.setCell ⟨G, 2, none⟩ (.int .i64 c)).setCell ⟨G, 3, none⟩ (.int .i64 a)) := by
  have s1 : (w.setCell ⟨G, 2, none⟩ (.int .i64 c)).cell? ⟨G, 3, none⟩ = some (.int .i64 σ.a) := by rw [World.cell?_setCell_other _ _ _ _ (by simp)]; exact h.c3
  have hs : ((w.setCell ⟨G, 2, none⟩ (.int .i64 c)).setCell ⟨G, 3, none⟩ (.int .i64 a)).heap.size = w.heap.size := by simp [World.setCell]
  refine ⟨?_, ?_, ?_, World.cell?_setCell_same _ _ _ s1, fun j => ?_, ?_, h.nb, by rw [hs]; exact h.lt⟩
  · rw [World.cell?_setCell_other _ _ _ _ (by simp), World.cell?_setCell_other _ _ _ _ (by simp)]; exact h.c0
  · rw [World.cell?_setCell_other _ _ _ _ (by simp), World.cell?_setCell_other _ _ _ _ (by simp)]; exact h.c1
  · rw [World.cell?_setCell_other _ _ _ _ (by simp)]; exact World.cell?_setCell_same _ _ _ h.c2
  · rw [frozen?_setCell, frozen?_setCell]; exact h.fz j
  · refine tks_kept h.tk fun hl k hk => ?_
    have hkG : k ≠ G := Nat.ne_of_lt (h.nb hl k hk)
    rw [Below.heap_setCell _ _ _ _ hkG, Below.heap_setCell _ _ _ _ hkG]
theorem add_zero0 (ad : Addr) : ad.add 0 = ad := by unfold Addr.add; simp
theorem add_two (ad : Addr) (m : Nat) : (⟨ad.block, ad.off + 2, none⟩ : Addr).add m = ad.add (2 + m) := by
  unfold Addr.add
  by_cases h : m = 0 <;> simp [h, Nat.add_assoc]
/-- The tokens, one less. -/
theorem PS.next {G E : Nat} {ad : Addr} {n cap : Nat} {σ : Ey} {t : Tk} {r : List Tk} {w : World} (h : PS G E (.slice (some ad) (n + 1) cap) σ w) (hl : σ.l = t :: r) (a : Option Addr) (ha : a = if cap = 1 then some ad else some ⟨ad.block, ad.off + 2, none⟩) : PS G E (.slice a n (cap - 1)) ⟨σ.c, σ.a, r⟩ (w.setCell ⟨G, 0, none⟩ (.slice a n (cap - 1))) := by
  have hs : (w.setCell ⟨G, 0, none⟩ (.slice a n (cap - 1))).heap.size = w.heap.size := by simp [World.setCell]
  have hob : (Value.slice a n (cap - 1)).ownBlock = some ad.block := by subst ha; by_cases hc : cap = 1 <;> simp [hc, Value.ownBlock]
  have hnl : ad.block < G := h.nb (by rw [hl]; simp) _ rfl
  have hnb : ad.block ≠ G := Nat.ne_of_lt hnl
  have htk : Tks w (.slice a n (cap - 1)) r := by
    obtain ⟨a', c, e, hcl, hc⟩ := h.tk
    simp only [hl] at e hcl hc
    simp only [Value.slice.injEq, List.length_cons, Nat.add_right_cancel_iff] at e
    obtain ⟨rfl, rfl, rfl⟩ := e
    rw [List.length_cons] at hcl
    refine ⟨_, _, rfl, by omega, fun j hj => ?_⟩
    rw [if_neg (by omega)] at ha
    obtain ⟨ad', h1, h2, h3⟩ := hc (j + 1) (by rw [List.length_cons]; omega)
    cases h1
    simp only [List.getElem_cons_succ] at h2 h3
    refine ⟨_, ha, ?_, ?_⟩
    · rw [add_two, show 2 + j * 2 = (j + 1) * 2 by omega]; exact h2
    · rw [add_two, show 2 + (j * 2 + 1) = (j + 1) * 2 + 1 by omega]; exact h3
  refine ⟨World.cell?_setCell_same _ _ _ h.c0, ?_, ?_, ?_, fun j => by rw [frozen?_setCell]; exact h.fz j, ?_, fun _ k hk => by rw [hob] at hk; cases hk; exact hnl, by rw [hs]; exact h.lt⟩
  · rw [World.cell?_setCell_other _ _ _ _ (by simp)]; exact h.c1
  · rw [World.cell?_setCell_other _ _ _ _ (by simp)]; exact h.c2
  · rw [World.cell?_setCell_other _ _ _ _ (by simp)]; exact h.c3
  · refine tks_kept htk fun _ k hk => ?_
    rw [hob] at hk
    cases hk
    exact Below.heap_setCell _ _ _ _ hnb
end Go.Proofs.YtkopjmofdnlplaaGreatDoor.Tm
namespace Go.Proofs.YtkopjmofdnlplaaGreatDoor.Tm
open Go.RowKit Go.Proofs.YtkopjmofdnlplaaGreatDoor.Lex Go.Proofs.YtkopjmofdnlplaaGreatDoor.Dig
/-- Whether the eyes have stopped. -/
def Ey.bad (σ : Ey) : Bool := !(σ.c == 0)
theorem bad_no {σ : Ey} (h : σ.c = 0) : σ.bad = false := by unfold Ey.bad; rw [h]; rfl
theorem bad_yes {σ : Ey} (h : σ.c ≠ 0) : σ.bad = true := by unfold Ey.bad; rw [Bool.not_eq_true', beq_eq_false_iff_ne]; exact h
set_option maxRecDepth 100000 in
theorem is_any (c a : Int) (W : World) : Calls Tryz.prog 31 #[.agg #[.int .i64 c, .int .i64 a]] W fun e w' => e = .returned (.bool (c == 0)) ∧ Below W.heap.size W w' := by
  go_enter Tryz.func31, Tryz.ntmps31
  go_wp2_with fail
  go_ret
  exact ⟨rfl, (Below.refl _ _).alloc (Nat.le_refl _) _⟩
section
variable {G E : Nat} {lv : Value} {σ : Ey} {W : World}
set_option maxRecDepth 100000 in
theorem stop_any (h : PS G E lv σ W) : Calls Tryz.prog 63 #[.pointer (some ⟨G, 0, none⟩)] W fun e w' => e = .returned (.bool σ.bad) ∧ Below W.heap.size W w' := by
  have c2 := h.c2
  have c3 := h.c3
  have C := Lib.hid (is_any σ.c σ.a W)
  obtain ⟨bb, hbb⟩ : ∃ bb, σ.bad = bb := ⟨_, rfl⟩
  have hb2 : (!(σ.c == 0)) = bb := hbb
  rw [hbb]
  clear h hbb
  go_enter Tryz.func63, Tryz.ntmps63
  go_wp2_with fail
  refine (C.out).mono ?_; rintro e w' ⟨rfl, hb⟩
  have HB := Lib.hid hb
  clear hb
  go_wp2_with fail
  go_ret
  exact ⟨by simp, HB.out⟩
set_option maxRecDepth 100000 in
theorem place_any (h : PS G E lv σ W) : Calls Tryz.prog 66 #[.pointer (some ⟨G, 0, none⟩)] W fun e w' => e = .returned (.int .i64 (pos E σ : Nat)) ∧ Below W.heap.size W w' := by
  have c0 := h.c0
  have c1 := h.c1
  have ht := h.tk
  obtain ⟨a, cp, rfl, -⟩ := h.cap
  clear h
  unfold pos
  cases hl : σ.l with
  | nil =>
    rw [hl] at c0 ht
    go_enter Tryz.func66, Tryz.ntmps66
    go_wp2_with fail
    go_ret
    exact ⟨rfl, Below.refl _ _⟩
  | cons t r =>
    rw [hl] at c0 ht
    obtain ⟨ad, rfl, d0, d1⟩ := ht.at_ 0 (by simp)
    simp only [List.getElem_cons_zero] at d0 d1
    rw [Nat.zero_mul, add_zero0] at d0 d1
    have n1 : ((r.length : Int) + 1 == 0) = false := by rw [beq_eq_false_iff_ne]; omega
    clear ht hl
    go_enter Tryz.func66, Tryz.ntmps66
    go_wp2_with fail
    go_ret
    exact ⟨rfl, Below.refl _ _⟩
set_option maxRecDepth 100000 in
theorem text_any (h : PS G E lv σ W) : Calls Tryz.prog 64 #[.pointer (some ⟨G, 0, none⟩)] W fun e w' => e = .returned (.string (txt σ)) ∧ Below W.heap.size W w' := by
  have C := Lib.hid (stop_any h)
  by_cases hc : σ.c = 0
  · rw [bad_no hc] at C
    cases hl : σ.l with
    | nil =>
      rw [txt_nil hl]
      have c0 := Lib.hid (fun w' hb => (h.below (w' := w') hb).c0)
      obtain ⟨a, cp, rfl, -⟩ := h.cap
      rw [hl] at c0
      clear h hl hc
      go_enter Tryz.func64, Tryz.ntmps64
      go_wp2_with fail
      refine (C.out).mono ?_; rintro e w' ⟨rfl, hb⟩
      have HB := Lib.hid hb
      have c0 := c0.out w' hb
      clear hb
      go_wp2_with fail
      go_ret
      exact ⟨rfl, HB.out⟩
    | cons t r =>
      rw [txt_cons hc hl]
      have HT := Lib.hid (fun w' hb => (h.below (w' := w') hb))
      obtain ⟨a, cp, rfl, -⟩ := h.cap
      rw [hl] at HT
      have n1 : ((r.length : Int) + 1 == 0) = false := by rw [beq_eq_false_iff_ne]; omega
      have HL := Lib.hid hl
      clear h hl hc
      go_enter Tryz.func64, Tryz.ntmps64
      go_wp2_with fail
      refine (C.out).mono ?_; rintro e w' ⟨rfl, hb⟩
      have HB := Lib.hid hb
      have h2 := HT.out w' hb
      have c0 := h2.c0
      have ht := h2.tk
      rw [HL.out] at ht
      obtain ⟨ad, rfl, d0, d1⟩ := ht.at_ 0 (by simp)
      simp only [List.getElem_cons_zero] at d0 d1
      rw [Nat.zero_mul, add_zero0] at d0 d1
      clear hb h2 ht HT
      go_wp2_with fail
      go_ret
      exact ⟨rfl, HB.out⟩
  · rw [bad_yes hc] at C
    rw [txt_stop hc]
    clear h hc
    go_enter Tryz.func64, Tryz.ntmps64
    go_wp2_with fail
    refine (C.out).mono ?_; rintro e w' ⟨rfl, hb⟩
    have HB := Lib.hid hb
    clear hb
    go_wp2_with fail
    go_ret
    exact ⟨rfl, HB.out⟩
/-- What a step leaves: the eyes anew, and nothing else turned. -/
def StP (G E : Nat) (σ : Ey) (W : World) (w' : World) : Prop := (∃ lv, PS G E lv σ w') ∧ W.grownBy w' (some G)
set_option maxRecDepth 100000 in
theorem wrong_any (h : PS G E lv σ W) (c a : Int) : Calls Tryz.prog 65 #[.pointer (some ⟨G, 0, none⟩), .int .i64 c, .int .i64 a] W fun e w' => e = .returned (.tuple #[]) ∧ StP G E (wrong σ c a) W w' := by
  have C := Lib.hid (stop_any h)
  have HT := Lib.hid (fun w' hb => (h.below (w' := w') hb))
  clear h
  unfold wrong
  by_cases hc : σ.c = 0
  · rw [bad_no hc] at C
    rw [if_pos hc]
    clear hc
    go_enter Tryz.func65, Tryz.ntmps65
    go_wp2_with fail
    refine (C.out).mono ?_; rintro e w' ⟨rfl, hb⟩
    have h2 := Lib.hid (HT.out w' hb)
    have c2 := h2.out.c2
    have c3 := h2.out.c3
    have f2 := h2.out.fz 2
    have f3 := h2.out.fz 3
    have HB := Lib.hid (gb_below (some G) hb)
    clear hb HT
    go_wp2_with fail
    go_end0
    exact ⟨rfl, ⟨_, h2.out.put c a⟩, gb_trans HB.out (gb_trans gb_set gb_set)⟩
  · rw [bad_yes hc] at C
    rw [if_neg hc]
    clear hc
    go_enter Tryz.func65, Tryz.ntmps65
    go_wp2_with fail
    refine (C.out).mono ?_; rintro e w' ⟨rfl, hb⟩
    have h2 := Lib.hid (HT.out w' hb)
    have HB := Lib.hid (gb_below (some G) hb)
    clear hb HT
    go_wp2_with fail
    go_end0
    exact ⟨rfl, ⟨_, h2.out⟩, HB.out⟩
end
end Go.Proofs.YtkopjmofdnlplaaGreatDoor.Tm
namespace Go.Proofs.YtkopjmofdnlplaaGreatDoor.Tm
open Go.RowKit Go.Proofs.YtkopjmofdnlplaaGreatDoor.Lex Go.Proofs.YtkopjmofdnlplaaGreatDoor.Dig
theorem tl_no {s : ByteArray} {a : Array UInt8} (h : s ≠ ⟨a⟩) : (s.toList == a.toList) = false := by
  have := (Go.Lib.bytes_beq_false_iff s ⟨a⟩).2 h
  rwa [ByteArray.toList_eq ⟨a⟩] at this
theorem tl_yes {s : ByteArray} {a : Array UInt8} (h : s = ⟨a⟩) : (s.toList == a.toList) = true := by
  subst h
  rw [ByteArray.toList_eq, beq_iff_eq]
section
variable {G E : Nat} {lv : Value} {σ : Ey} {W : World}
theorem StP.refl (h : PS G E lv σ W) : StP G E σ W W := ⟨⟨lv, h⟩, gb_refl _ _⟩
theorem StP.trans {σ' : Ey} {w1 w2 : World} (h : W.grownBy w1 (some G)) (g : StP G E σ' w1 w2) : StP G E σ' W w2 := ⟨g.1, gb_trans h g.2⟩
set_option maxRecDepth 100000 in
theorem pass_any (h : PS G E lv σ W) : Calls Tryz.prog 111 #[.pointer (some ⟨G, 0, none⟩)] W fun e w' => e = .returned (.string (txt σ)) ∧ StP G E (pass E σ) W w' := by
  have C := Lib.hid (text_any h)
  have HT := Lib.hid (fun w' hb => (h.below (w' := w') hb))
  unfold pass
  by_cases he : txt σ = emp
  · rw [if_pos he]
    rw [he] at C ⊢
    clear h he
    go_enter Tryz.func111, Tryz.ntmps111
    go_wp2_with fail
    refine (C.out).mono ?_; rintro e w1 ⟨rfl, hb⟩
    have h2 := Lib.hid (HT.out w1 hb)
    have HB := Lib.hid (gb_below (some G) hb)
    clear hb HT
    unfold emp
    go_wp2_with fail
    refine (place_any h2.out).mono ?_; rintro e w2 ⟨rfl, hb⟩
    have h3 := Lib.hid (h2.out.below hb)
    have HB2 := Lib.hid (gb_trans HB.out (gb_below (some G) hb))
    clear hb HB
    go_wp2_with fail
    refine (wrong_any h3.out _ _).mono ?_; rintro e w3 ⟨rfl, hs⟩
    have HS := Lib.hid (StP.trans HB2.out hs)
    clear hs
    go_wp2_with fail
    go_ret
    exact ⟨rfl, HS.out⟩
  · rw [if_neg he]
    obtain ⟨hc, t, r, hl, ht⟩ := txt_some he
    have hs0 : 0 < (txt σ).size := by
      rcases Nat.eq_zero_or_pos (txt σ).size with e | e
      · exact absurd (emp_iff.2 e) he
      · exact e
    have t2 := str_full (txt σ) hs0
    rw [hl, List.tail_cons]
    obtain ⟨s, hs⟩ : ∃ s, txt σ = s := ⟨_, rfl⟩
    rw [hs] at C t2 ⊢
    obtain ⟨a, cp, rfl, hcp⟩ := h.cap
    rw [hl, List.length_cons] at hcp HT
    obtain ⟨n, hn⟩ : ∃ n, r.length = n := ⟨_, rfl⟩
    have HL := Lib.hid hl
    have hcp2 : n + 1 ≤ cp := by omega
    clear h he hc ht hs hs0 hl hcp
    rw [hn] at HT
    go_enter Tryz.func111, Tryz.ntmps111
    go_wp2_with fail
    refine (C.out).mono ?_; rintro e w1 ⟨rfl, hb⟩
    have h2 := Lib.hid (HT.out w1 hb)
    have HB := Lib.hid (gb_below (some G) hb)
    clear hb HT
    obtain ⟨ad, rfl⟩ : ∃ ad, a = some ad := by
      obtain ⟨a', c', e, _, hc⟩ := h2.out.tk
      rw [HL.out] at hc
      simp only [Value.slice.injEq] at e
      obtain ⟨rfl, _⟩ := e
      obtain ⟨ad, h1, _⟩ := hc 0 (by simp)
      exact ⟨ad, h1⟩
    have c0 := h2.out.c0
    have f0 := h2.out.fz 0
    obtain ⟨A, hA⟩ : ∃ A, (if cp = 1 then some ad else some (⟨ad.block, ad.off + 2, none⟩ : Addr)) = A := ⟨_, rfl⟩
    have HN := Lib.hid (h2.out.next HL.out A hA.symm)
    go_wp2_with fail
    go_ret
    exact ⟨rfl, ⟨_, HN.out⟩, gb_trans HB.out gb_set⟩
set_option maxRecDepth 100000 in
theorem take_any (h : PS G E lv σ W) (s : ByteArray) : Calls Tryz.prog 107 #[.pointer (some ⟨G, 0, none⟩), .string s] W fun e w' => e = .returned (.bool (decide (txt σ = s))) ∧ StP G E (take E σ s) W w' := by
  have C := Lib.hid (text_any h)
  have HT := Lib.hid (fun w' hb => (h.below (w' := w') hb))
  unfold take
  by_cases he : txt σ = s
  · rw [if_pos he, decide_eq_true he]
    have e1 : ((txt σ).toList == s.toList) = true := (Go.Lib.bytes_beq_iff _ _).2 he
    clear h he
    go_enter Tryz.func107, Tryz.ntmps107
    go_wp2_with fail
    refine (C.out).mono ?_; rintro e w1 ⟨rfl, hb⟩
    have h2 := Lib.hid (HT.out w1 hb)
    have HB := Lib.hid (gb_below (some G) hb)
    clear hb HT
    go_wp2_with fail
    refine (pass_any h2.out).mono ?_; rintro e w2 ⟨rfl, hs⟩
    have HS := Lib.hid (StP.trans HB.out hs)
    clear hs
    go_wp2_with fail
    go_ret
    exact ⟨rfl, HS.out⟩
  · rw [if_neg he, decide_eq_false he]
    have e1 : ((txt σ).toList == s.toList) = false := (Go.Lib.bytes_beq_false_iff _ _).2 he
    clear h he
    go_enter Tryz.func107, Tryz.ntmps107
    go_wp2_with fail
    refine (C.out).mono ?_; rintro e w1 ⟨rfl, hb⟩
    have h2 := Lib.hid (HT.out w1 hb)
    have HB := Lib.hid (gb_below (some G) hb)
    clear hb HT
    go_wp2_with fail
    go_ret
    exact ⟨rfl, ⟨_, h2.out⟩, HB.out⟩
set_option maxRecDepth 100000 in
theorem must_any (h : PS G E lv σ W) (s : ByteArray) (_hs : s ≠ emp) : Calls Tryz.prog 67 #[.pointer (some ⟨G, 0, none⟩), .string s] W fun e w' => e = .returned (.tuple #[]) ∧ StP G E (must E σ s) W w' := by
  have C := Lib.hid (take_any h s)
  unfold must
  unfold take at C
  by_cases he : txt σ = s
  · rw [if_pos he]
    rw [if_pos he, decide_eq_true he] at C
    clear h he _hs
    go_enter Tryz.func67, Tryz.ntmps67
    go_wp2_with fail
    refine (C.out).mono ?_; rintro e w1 ⟨rfl, hs⟩
    have HS := Lib.hid hs
    clear hs
    go_wp2_with fail
    go_end0
    exact ⟨rfl, HS.out⟩
  · rw [if_neg he]
    rw [if_neg he, decide_eq_false he] at C
    clear h he _hs
    go_enter Tryz.func67, Tryz.ntmps67
    go_wp2_with fail
    refine (C.out).mono ?_; rintro e w1 ⟨rfl, ⟨lv2, hp⟩, hg⟩
    have HP := Lib.hid hp
    have HB := Lib.hid hg
    clear hp hg
    go_wp2_with fail
    refine (place_any HP.out).mono ?_; rintro e w2 ⟨rfl, hb⟩
    have h3 := Lib.hid (HP.out.below hb)
    have HB2 := Lib.hid (gb_trans HB.out (gb_below (some G) hb))
    clear hb HB
    go_wp2_with fail
    refine (wrong_any h3.out _ _).mono ?_; rintro e w3 ⟨rfl, hs⟩
    have HS := Lib.hid (StP.trans HB2.out hs)
    clear hs
    go_wp2_with fail
    go_end0
    exact ⟨rfl, HS.out⟩
end
set_option maxRecDepth 100000 in
theorem hold_any (s : ByteArray) (W : World) : Calls Tryz.prog 165 #[.string s] W fun e w' => e = .returned (.int .i64 (hold s : Nat)) ∧ W = w' := by
  by_cases h61_61 : s = ⟨#[61, 61]⟩
  · subst h61_61
    have e : hold ⟨#[61, 61]⟩ = 1 := by decide
    rw [e]
    go_enter Tryz.func165, Tryz.ntmps165
    go_wp2_with fail
    go_ret
    exact ⟨rfl, rfl⟩
  by_cases h33_61 : s = ⟨#[33, 61]⟩
  · subst h33_61
    have e : hold ⟨#[33, 61]⟩ = 1 := by decide
    rw [e]
    go_enter Tryz.func165, Tryz.ntmps165
    go_wp2_with fail
    go_ret
    exact ⟨rfl, rfl⟩
  by_cases h60 : s = ⟨#[60]⟩
  · subst h60
    have e : hold ⟨#[60]⟩ = 1 := by decide
    rw [e]
    go_enter Tryz.func165, Tryz.ntmps165
    go_wp2_with fail
    go_ret
    exact ⟨rfl, rfl⟩
  by_cases h62 : s = ⟨#[62]⟩
  · subst h62
    have e : hold ⟨#[62]⟩ = 1 := by decide
    rw [e]
    go_enter Tryz.func165, Tryz.ntmps165
    go_wp2_with fail
    go_ret
    exact ⟨rfl, rfl⟩
  by_cases h43 : s = ⟨#[43]⟩
  · subst h43
    have e : hold ⟨#[43]⟩ = 2 := by decide
    rw [e]
    go_enter Tryz.func165, Tryz.ntmps165
    go_wp2_with fail
    go_ret
    exact ⟨rfl, rfl⟩
  by_cases h45 : s = ⟨#[45]⟩
  · subst h45
    have e : hold ⟨#[45]⟩ = 2 := by decide
    rw [e]
    go_enter Tryz.func165, Tryz.ntmps165
    go_wp2_with fail
    go_ret
    exact ⟨rfl, rfl⟩
  by_cases h124 : s = ⟨#[124]⟩
  · subst h124
    have e : hold ⟨#[124]⟩ = 2 := by decide
    rw [e]
    go_enter Tryz.func165, Tryz.ntmps165
    go_wp2_with fail
    go_ret
    exact ⟨rfl, rfl⟩
  by_cases h42 : s = ⟨#[42]⟩
  · subst h42
    have e : hold ⟨#[42]⟩ = 3 := by decide
    rw [e]
    go_enter Tryz.func165, Tryz.ntmps165
    go_wp2_with fail
    go_ret
    exact ⟨rfl, rfl⟩
  by_cases h38 : s = ⟨#[38]⟩
  · subst h38
    have e : hold ⟨#[38]⟩ = 3 := by decide
    rw [e]
    go_enter Tryz.func165, Tryz.ntmps165
    go_wp2_with fail
    go_ret
    exact ⟨rfl, rfl⟩
  have e : hold s = 0 := by unfold hold; rw [if_neg (by simp [h61_61, h33_61, h60, h62]), if_neg (by simp [h43, h45, h124]), if_neg (by simp [h42, h38])]
  rw [e]
  have f61_61 : (s.toList == [61, 61]) = false := tl_no (a := #[61, 61]) h61_61
  have f33_61 : (s.toList == [33, 61]) = false := tl_no (a := #[33, 61]) h33_61
  have f60 : (s.toList == [60]) = false := tl_no (a := #[60]) h60
  have f62 : (s.toList == [62]) = false := tl_no (a := #[62]) h62
  have f43 : (s.toList == [43]) = false := tl_no (a := #[43]) h43
  have f45 : (s.toList == [45]) = false := tl_no (a := #[45]) h45
  have f124 : (s.toList == [124]) = false := tl_no (a := #[124]) h124
  have f42 : (s.toList == [42]) = false := tl_no (a := #[42]) h42
  have f38 : (s.toList == [38]) = false := tl_no (a := #[38]) h38
  clear e h61_61 h33_61 h60 h62 h43 h45 h124 h42 h38
  go_enter Tryz.func165, Tryz.ntmps165
  go_wp2_with fail
  go_ret
  exact ⟨rfl, rfl⟩
end Go.Proofs.YtkopjmofdnlplaaGreatDoor.Tm
namespace Go.Proofs.YtkopjmofdnlplaaGreatDoor.Tm
open Go.RowKit Go.Proofs.YtkopjmofdnlplaaGreatDoor.Lex Go.Proofs.YtkopjmofdnlplaaGreatDoor.Dig
abbrev Pr := Option Ex × Ey
def singleF (E : Nat) (rec : Nat → Ey → Pr) (deep : Nat) (σ : Ey) : Pr :=
  if σ.c ≠ 0 then (none, σ)
  else if txt σ = ⟨#[40]⟩ then
    let r := rec (deep + 1) (take E (if 8 ≤ deep then wrong σ 4 (pos E σ : Nat) else σ) ⟨#[40]⟩)
    (r.1, must E r.2 ⟨#[41]⟩)
  else if isN (txt σ) = true then (some (.nam (pos E σ) (txt σ)), pass E (if 12 < (txt σ).size then wrong σ 4 (pos E σ : Nat) else σ))
  else if isD (txt σ) = true then (some (.num (pos E σ) (numV (txt σ))), pass E (if numE (txt σ) ≠ 0 then wrong σ (numE (txt σ)) (pos E σ : Nat) else σ))
  else (none, wrong σ 3 (pos E σ : Nat))
def binO (k : Nat) (op : ByteArray) (x y : Option Ex) : Option Ex := match x, y with | some x, some y => some (.bin k op x y) | _, _ => none
def loopF (E : Nat) (rec : Nat → Ey → Pr) (least : Nat) : Nat → Option Ex → Ey → Pr
  | 0, x, σ => (x, σ)
  | m + 1, x, σ =>
    if σ.c = 0 ∧ least ≤ hold (txt σ) ∧ 0 < hold (txt σ) then
      let r := rec (hold (txt σ) + 1) (pass E σ)
      loopF E rec least m (binO (pos E σ) (txt σ) x r.1) r.2
    else (x, σ)
def exprF (E : Nat) : Nat → Nat → Nat → Ey → Pr
  | 0, _, _, σ => (none, σ)
  | n + 1, least, deep, σ =>
    let s := singleF E (fun d τ => exprF E n 1 d τ) deep σ
    loopF E (fun l τ => exprF E n l deep τ) least s.2.l.length s.1 s.2
/-- What a function on the eyes may do to the tokens: none is new. -/
def Tm0 (σ σ' : Ey) : Prop := (AllT σ.l → AllT σ'.l) ∧ σ'.l.length ≤ σ.l.length ∧ (σ.c ≠ 0 → σ' = σ)
theorem Tm0.refl (σ : Ey) : Tm0 σ σ := ⟨fun h => h, Nat.le_refl _, fun _ => rfl⟩
theorem Tm0.trans {a b c : Ey} (h : Tm0 a b) (g : Tm0 b c) : Tm0 a c :=
  ⟨fun x => g.1 (h.1 x), Nat.le_trans g.2.1 h.2.1, fun hc => by have e := h.2.2 hc; subst e; exact g.2.2 hc⟩
theorem wrong_stop {σ : Ey} (h : σ.c ≠ 0) (e k : Int) : wrong σ e k = σ := if_neg h
theorem wrong_0 (σ : Ey) (e k : Int) : Tm0 σ (wrong σ e k) := ⟨wrong_all, wrong_len σ e k, fun h => wrong_stop h e k⟩
theorem pass_stop {E : Nat} {σ : Ey} (h : σ.c ≠ 0) : pass E σ = σ := by unfold pass; rw [if_pos (txt_stop h), wrong_stop h]
theorem pass_0 (E : Nat) (σ : Ey) : Tm0 σ (pass E σ) := ⟨pass_all, pass_len E σ, pass_stop⟩
theorem take_0 (E : Nat) (σ : Ey) (s : ByteArray) : Tm0 σ (take E σ s) := by
  unfold take; split
  · exact pass_0 E σ
  · exact Tm0.refl σ
theorem must_0 (E : Nat) (σ : Ey) (s : ByteArray) : Tm0 σ (must E σ s) := by
  unfold must; split
  · exact pass_0 E σ
  · exact wrong_0 _ _ _
theorem ite_0 {p : Prop} [Decidable p] {σ a : Ey} (h : Tm0 σ a) : Tm0 σ (if p then a else σ) := by
  split
  · exact h
  · exact Tm0.refl σ
theorem single_0 {E : Nat} {rec : Nat → Ey → Pr} (h : ∀ d τ, Tm0 τ (rec d τ).2) (deep : Nat) (σ : Ey) : Tm0 σ (singleF E rec deep σ).2 := by
  unfold singleF
  split
  · exact Tm0.refl σ
  · split
    · exact ((ite_0 (wrong_0 _ _ _)).trans (take_0 _ _ _)).trans ((h _ _).trans (must_0 _ _ _))
    · split
      · exact (ite_0 (wrong_0 _ _ _)).trans (pass_0 _ _)
      · split
        · exact (ite_0 (wrong_0 _ _ _)).trans (pass_0 _ _)
        · exact wrong_0 _ _ _
theorem loop_0 {E : Nat} {rec : Nat → Ey → Pr} (h : ∀ d τ, Tm0 τ (rec d τ).2) (least : Nat) : ∀ (m : Nat) (x : Option Ex) (σ : Ey), Tm0 σ (loopF E rec least m x σ).2 := by
  intro m
  induction m with
  | zero => intro x σ; exact Tm0.refl σ
  | succ m ih =>
    intro x σ
    unfold loopF
    split
    · exact (pass_0 E σ).trans ((h _ _).trans (ih _ _))
    · exact Tm0.refl σ
theorem expr_0 (E : Nat) : ∀ (n least deep : Nat) (σ : Ey), Tm0 σ (exprF E n least deep σ).2 := by
  intro n
  induction n with
  | zero => intro least deep σ; exact Tm0.refl σ
  | succ n ih => intro least deep σ; exact (single_0 (fun d τ => ih 1 d τ) deep σ).trans (loop_0 (fun l τ => ih l deep τ) least _ _ _)
/-! ### In memory -/
/-- What holds of w, and of each world that has the same blocks from lo on. -/
def Fw (lo : Nat) (w : World) (P : World → Prop) : Prop := ∀ w2 : World, (∀ k, lo ≤ k → k < w.heap.size → w2.heap[k]? = w.heap[k]?) → P w2
theorem Fw.now {lo : Nat} {w : World} {P : World → Prop} (h : Fw lo w P) : P w := h w fun _ _ _ => rfl
theorem Fw.low {lo lo' : Nat} {w : World} {P : World → Prop} (h : Fw lo w P) (hl : lo' ≤ lo) : Fw lo' w P := fun w2 hk => h w2 fun k h1 h2 => hk k (Nat.le_trans hl h1) h2
theorem Fw.later {lo : Nat} {w w' : World} {P : World → Prop} (h : Fw lo w P) (hs : w.heap.size ≤ w'.heap.size) (hk : ∀ k, lo ≤ k → k < w.heap.size → w'.heap[k]? = w.heap[k]?) : Fw lo w' P :=
  fun w2 h2 => h w2 fun k h3 h4 => (h2 k h3 (Nat.lt_of_lt_of_le h4 hs)).trans (hk k h3 h4)
theorem Fw.grown {lo G : Nat} {w w' : World} {P : World → Prop} (h : Fw lo w P) (hg : w.grownBy w' (some G)) (hG : G < lo) : Fw lo w' P :=
  h.later hg.size fun k h1 h2 => hg.block k h2 (fun e => by cases e; omega)
theorem Fw.below {lo : Nat} {w w' : World} {P : World → Prop} (h : Fw lo w P) (hb : Below w.heap.size w w') : Fw lo w' P :=
  h.later hb.size fun k _ h2 => hb.block k h2
def exCells (code : Int) (k : Nat) (n : Int) (s op : ByteArray) (l r : Value) : Obj := .cells #[.int .i64 code, .int .i64 k, .int .i64 n, .string s, .string op, l, r] 177
/-- The pointer v shows the expression. -/
def ExAt (w : World) : Ex → Value → Prop
  | .num k n, v => ∃ g, v = .pointer (some ⟨g, 0, none⟩) ∧ w.heap[g]? = some (exCells 1 k n emp emp (.pointer none) (.pointer none))
  | .nam k s, v => ∃ g, v = .pointer (some ⟨g, 0, none⟩) ∧ w.heap[g]? = some (exCells 2 k 0 s emp (.pointer none) (.pointer none))
  | .bin k op l r, v => ∃ g a b, v = .pointer (some ⟨g, 0, none⟩) ∧ w.heap[g]? = some (exCells 3 k 0 emp op a b) ∧ ExAt w l a ∧ ExAt w r b
def ExF (lo : Nat) (w : World) (x : Ex) (v : Value) : Prop := Fw lo w fun w2 => ExAt w2 x v
theorem exF_num {lo : Nat} {w : World} (h : lo ≤ w.heap.size) (k : Nat) (n : Int) : ExF lo (w.alloc (exCells 1 k n emp emp (.pointer none) (.pointer none))) (.num k n) (.pointer (some ⟨w.heap.size, 0, none⟩)) :=
  fun w2 hk => ⟨_, rfl, (hk _ h (by simp)).trans (heap_alloc_new _ _)⟩
theorem exF_nam {lo : Nat} {w : World} (h : lo ≤ w.heap.size) (k : Nat) (s : ByteArray) : ExF lo (w.alloc (exCells 2 k 0 s emp (.pointer none) (.pointer none))) (.nam k s) (.pointer (some ⟨w.heap.size, 0, none⟩)) :=
  fun w2 hk => ⟨_, rfl, (hk _ h (by simp)).trans (heap_alloc_new _ _)⟩
theorem exF_bin {lo : Nat} {w : World} (h : lo ≤ w.heap.size) (k : Nat) (op : ByteArray) {l r : Ex} {a b : Value} (hl : ExF lo w l a) (hr : ExF lo w r b) : ExF lo (w.alloc (exCells 3 k 0 emp op a b)) (.bin k op l r) (.pointer (some ⟨w.heap.size, 0, none⟩)) :=
  fun w2 hk => ⟨_, a, b, rfl, (hk _ h (by simp)).trans (heap_alloc_new _ _), hl w2 fun k h1 h2 => (hk k h1 (by simp; omega)).trans (heap_alloc_old _ _ h2), hr w2 fun k h1 h2 => (hk k h1 (by simp; omega)).trans (heap_alloc_old _ _ h2)⟩
theorem ExF.grown {lo G : Nat} {w w' : World} {x : Ex} {v : Value} (h : ExF lo w x v) (hg : w.grownBy w' (some G)) (hG : G < lo) : ExF lo w' x v := Fw.grown h hg hG
theorem ExF.low {lo lo' : Nat} {w : World} {x : Ex} {v : Value} (h : ExF lo w x v) (hl : lo' ≤ lo) : ExF lo' w x v := Fw.low h hl
/-- A result: the value shows the expression, where nothing is wrong. -/
def Got (lo : Nat) (r : Pr) (v : Value) (w : World) : Prop := (∃ p, v = .pointer p) ∧ (r.2.c = 0 → ∃ x, r.1 = some x ∧ ExF lo w x v)
def ExP (G E : Nat) (r : Pr) (W : World) (e : Ending) (w' : World) : Prop := ∃ v, e = .returned v ∧ StP G E r.2 W w' ∧ Got W.heap.size r v w'
end Go.Proofs.YtkopjmofdnlplaaGreatDoor.Tm
