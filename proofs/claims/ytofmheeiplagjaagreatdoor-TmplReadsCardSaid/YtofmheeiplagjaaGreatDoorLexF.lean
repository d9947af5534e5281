/-
  PROVED HERE: the contract of the document's Lex. Conditions: as each theorem states.
-/
import Derived.Test.YtofmheeiplagjaaGreatDoorLexE
import Derived.Test.YtofmheeiplagjaaGreatDoorPlc
namespace Go.Proofs.YtofmheeiplagjaaGreatDoor.Lex
open Go.RowKit
def Z2 : Obj := .cells #[.int .i64 0, .int .i64 0] 27
def Rz (W wr : World) : Prop := Below (W.heap.size + 1) (W.alloc Z2) wr
theorem Rz.cells {W wr : World} (h : Rz W wr) : wr.cell? ⟨W.heap.size, 0, none⟩ = some (.int .i64 0) ∧ wr.cell? ⟨W.heap.size, 1, none⟩ = some (.int .i64 0) := by
  have k : ∀ j, wr.cell? ⟨W.heap.size, j, none⟩ = (W.alloc Z2).cell? ⟨W.heap.size, j, none⟩ := fun j => Below.cell h (p := ⟨W.heap.size, j, none⟩) (Nat.lt_succ_self _)
  refine ⟨?_, ?_⟩ <;> rw [k] <;> unfold Z2 <;> simp
theorem Rz.frozen {W wr : World} (h : Rz W wr) (j : Nat) : wr.frozen? ⟨W.heap.size, j, none⟩ = false := by
  rw [Below.frozen h (p := ⟨W.heap.size, j, none⟩) (Nat.lt_succ_self _)]
  unfold Z2
  simp
theorem Rz.below {W wr : World} (h : Rz W wr) : Below W.heap.size W wr := ((Below.refl _ _).alloc (Nat.le_refl _) _).trans (Below.mono h (Nat.le_succ _))
theorem Rz.size {W wr : World} (h : Rz W wr) : W.heap.size + 1 ≤ wr.heap.size := by have := Below.size h; simpa using this
theorem Rz.next {W wr w1 : World} (h : Rz W wr) (g : Below wr.heap.size wr w1) : Rz W w1 := Below.trans h (g.mono h.size)
theorem Rz.alloc {W wr : World} (h : Rz W wr) (o : Obj) : Rz W (wr.alloc o) := Below.alloc h h.size o
theorem Rz.trans' {W wr w1 : World} (h : Rz W wr) (g : Below (W.heap.size + 1) wr w1) : Rz W w1 := Below.trans h g
def DX (s : ByteArray) (W : World) (e : Ending) (w' : World) : Prop := ∃ v, e = .returned (.tuple #[v, .agg #[.int .i64 (rc s), .int .i64 (rp s)]]) ∧ Tks w' v (rl s) ∧ Below W.heap.size W w'
theorem lex_results (tmps : Array Value) (w : World) (g : Nat) (v0 v1 : Value) (h3 : tmps.getD 3 undef = .pointer (some ⟨g, 0, none⟩)) (c0 : w.cell? ⟨g, 0, none⟩ = some v0) (c1 : w.cell? ⟨g, 1, none⟩ = some v1) :
    (results Tryz.f52 tmps).run Tryz.prog w = .ok (.tuple #[tmps.getD 2 undef, .agg #[v0, v1]]) w := by
  have h3' : tmps[3]?.getD undef = .pointer (some ⟨g, 0, none⟩) := by simpa using h3
  simp only [results, Tryz.f52]
  simp [go_sem, h3', c0, c1]
theorem set_other (w : World) (g j g' j' : Nat) (v : Value) (h : g' ≠ g ∨ j' ≠ j) : (w.setCell ⟨g, j, none⟩ v).cell? ⟨g', j', none⟩ = w.cell? ⟨g', j', none⟩ := World.cell?_setCell_other _ _ _ _ (by intro hh; simp at hh; omega)
theorem lex_end (s : ByteArray) (W : World) (a : Act) (w : World) (v : Value) (c p : Int) (hB : Rz W w) (hd : a.defers = []) (h2 : a.tmps.getD 2 undef = v) (h3 : a.tmps.getD 3 undef = .pointer (some ⟨W.heap.size, 0, none⟩)) (hv : OwnT w (W.heap.size + 1) v (rl s)) (hc : rc s = c) (hp : rp s = p) :
    bodyPost Tryz.prog Tryz.f52 (DX s W) .ret a ((w.setCell ⟨W.heap.size, 0, none⟩ (.int .i64 c)).setCell ⟨W.heap.size, 1, none⟩ (.int .i64 p)) := by
  obtain ⟨r0, r1⟩ := hB.cells
  have c1 : ((w.setCell ⟨W.heap.size, 0, none⟩ (.int .i64 c)).setCell ⟨W.heap.size, 1, none⟩ (.int .i64 p)).cell? ⟨W.heap.size, 1, none⟩ = some (.int .i64 p) := World.cell?_setCell_same _ _ _ ((set_other _ _ _ _ _ _ (by omega)).trans r1)
  have c0 : ((w.setCell ⟨W.heap.size, 0, none⟩ (.int .i64 c)).setCell ⟨W.heap.size, 1, none⟩ (.int .i64 p)).cell? ⟨W.heap.size, 0, none⟩ = some (.int .i64 c) := (set_other _ _ _ _ _ _ (by omega)).trans (World.cell?_setCell_same _ _ _ r0)
  refine ⟨hd, _, lex_results a.tmps _ W.heap.size _ _ h3 c0 c1, ?_⟩
  subst hc
  subst hp
  rw [h2]
  have o1 : OwnT (w.setCell ⟨W.heap.size, 0, none⟩ (.int .i64 (rc s))) (W.heap.size + 1) v (rl s) := ownsRow_setCell_below hv (Nat.lt_succ_self _) _
  have o2 : OwnT ((w.setCell ⟨W.heap.size, 0, none⟩ (.int .i64 (rc s))).setCell ⟨W.heap.size, 1, none⟩ (.int .i64 (rp s))) (W.heap.size + 1) v (rl s) := ownsRow_setCell_below o1 (Nat.lt_succ_self _) _
  exact ⟨v, rfl, o2.tks, (hB.below.setCell (p := ⟨W.heap.size, 0, none⟩) (Nat.le_refl _) _).setCell (p := ⟨W.heap.size, 1, none⟩) (Nat.le_refl _) _⟩
theorem res_bad (s : ByteArray) (hs : ¬ 3000 < s.size) (i : Nat) (hr : ro s = .bad i) : rl s = [] ∧ rc s = 3 ∧ rp s = i := by
  unfold rl rc rp
  rw [if_neg hs, if_neg hs, if_neg hs, hr]
  exact ⟨rfl, rfl, rfl⟩
theorem res_ok (s : ByteArray) (hs : ¬ 3000 < s.size) (p : List (Nat × Nat)) (hr : ro s = .ok p) : rl s = tks s p ∧ rc s = 0 ∧ rp s = -1 := by
  unfold rl rc rp
  rw [if_neg hs, if_neg hs, if_neg hs, hr]
  exact ⟨rfl, rfl, rfl⟩
theorem res_long (s : ByteArray) (hs : 3000 < s.size) : rl s = [] ∧ rc s = 4 ∧ rp s = -1 := by
  unfold rl rc rp
  rw [if_pos hs, if_pos hs, if_pos hs]
  exact ⟨rfl, rfl, rfl⟩
theorem sgl_ix : ∀ c : UInt8, decide (0 ≤ Lib.indexByte [123, 125, 91, 93, 40, 41, 59, 44, 61, 43, 45, 42, 38, 124, 60, 62] c) = sgl c := of_all (by decide +kernel)
theorem one_str (s : ByteArray) (k : Nat) (h : k < s.size) : s.extract k (k + 1) = ⟨#[s[k]]⟩ := by
  apply ByteArray.ext
  rw [ByteArray.data_extract]
  apply Array.ext
  · simp
    have : s.data.size = s.size := rfl
    omega
  · intro i h1 h2
    have : i = 0 := by simpa using h2
    subst this
    simp
    rfl
theorem pre_eq (s : ByteArray) (k : Nat) (h : k < s.size) (a : UInt8) : Lib.hasPrefix (s.extract k s.size).data.toList [a, 61] = (s[k] == a && ((lst s).drop (k + 1)).head? == some 61) := by
  have : (s.extract k s.size).data.toList = s[k] :: (lst s).drop (k + 1) := by rw [← lst_at s k h]; exact lst_drop s k
  rw [this, hp_two]
/-- The mode, in the document's variables. -/
def Md (m : M) (k : Nat) (w : Int) (r : Bool) : Prop := (m = .plain ∧ w = -1 ∧ r = false) ∨ (m = .remark ∧ w = -1 ∧ r = true) ∨ ∃ a : Nat, m = .word a ∧ a < k ∧ w = a ∧ r = false
def DR (s : ByteArray) (W : World) (v wv rv i : Value) (wr : World) : Prop :=
  ∃ (k : Nat) (p : List (Nat × Nat)) (m : M) (w : Int) (r : Bool), k ≤ s.size ∧ Hid (p.length ≤ (match m with | .word a => a | _ => k)) ∧ Hid (Md m k w r) ∧ i = .int .i64 k ∧ wv = .int .i64 w ∧ rv = .bool r ∧ TL s wr (W.heap.size + 1) v p ∧ Hid (ro s = R.app p (lx m k ((lst s).drop k))) ∧ Hid (Rz W wr)
end Go.Proofs.YtofmheeiplagjaaGreatDoor.Lex
