/-
  PROVED HERE: the memory of keys' Parse, the contract of its inner function. Conditions: as each theorem states.
-/
import Derived.Test.YtifnochpmlllgaaKeyQ
import Derived.Test.YtifnochpmlllgaaKeyH
namespace Go.Proofs.Ytifnochpmlllgaa.Key
open Go.RowKit
structure Rd (W : World) (h0 h1 h2 h3 h4 : Nat) (s u : ByteArray) (b : Bool) (v0 v1 v2 v3 v4 : Value) (wx : World) : Prop where
  bl : Below W.heap.size W wx
  g1 : W.heap.size ≤ h1
  g2 : W.heap.size ≤ h2
  g4 : W.heap.size ≤ h4
  n : h0 ≠ h1 ∧ h0 ≠ h2 ∧ h0 ≠ h4 ∧ h1 ≠ h2 ∧ h1 ≠ h3 ∧ h1 ≠ h4 ∧ h2 ≠ h3 ∧ h2 ≠ h4 ∧ h3 ≠ h4
  c0 : wx.cell? ⟨h0, 0, none⟩ = some (.string s)
  r0 : wx.cell? ⟨h1, 0, none⟩ = some (.int .u8 0)
  r1 : wx.cell? ⟨h1, 1, none⟩ = some (.int .i64 0)
  r2 : wx.cell? ⟨h1, 2, none⟩ = some (.int .u8 0)
  r3 : wx.cell? ⟨h1, 3, none⟩ = some (.int .u8 0)
  r4 : wx.cell? ⟨h1, 4, none⟩ = some (.string ⟨#[]⟩)
  p0 : wx.cell? ⟨h2, 0, none⟩ = some (.string u)
  p1 : wx.cell? ⟨h2, 1, none⟩ = some (.bool b)
  q : wx.cell? ⟨h3, 0, none⟩ = some (.pointer (some ⟨h2, 0, none⟩))
  d0 : wx.cell? ⟨h4, 0, none⟩ = some (v0)
  d1 : wx.cell? ⟨h4, 1, none⟩ = some (v1)
  d2 : wx.cell? ⟨h4, 2, none⟩ = some (v2)
  d3 : wx.cell? ⟨h4, 3, none⟩ = some (v3)
  d4 : wx.cell? ⟨h4, 4, none⟩ = some (v4)
  f : ∀ j, wx.frozen? ⟨h1, j, none⟩ = false ∧ wx.frozen? ⟨h2, j, none⟩ = false ∧ wx.frozen? ⟨h4, j, none⟩ = false
theorem set_other (w : World) (g j g' j' : Nat) (v : Value) (h : g' ≠ g ∨ j' ≠ j) : (w.setCell ⟨g, j, none⟩ v).cell? ⟨g', j', none⟩ = w.cell? ⟨g', j', none⟩ := World.cell?_setCell_other _ _ _ _ (by intro hh; simp at hh; omega)
section
variable {W wx : World} {h0 h1 h2 h3 h4 : Nat} {s u : ByteArray} {b : Bool} {v0 v1 v2 v3 v4 : Value}
theorem Rd.setU (h : Rd W h0 h1 h2 h3 h4 s u b v0 v1 v2 v3 v4 wx) (t : ByteArray) : Rd W h0 h1 h2 h3 h4 s t b v0 v1 v2 v3 v4 (wx.setCell ⟨h2, 0, none⟩ (.string t)) := by
  obtain ⟨n1, n2, n3, n4, n5, n6, n7, n8, n9⟩ := h.n
  exact ⟨h.bl.setCell (p := ⟨h2, 0, none⟩) h.g2 _, h.g1, h.g2, h.g4, h.n, (set_other _ _ _ _ _ _ (by omega)).trans h.c0, (set_other _ _ _ _ _ _ (by omega)).trans h.r0, (set_other _ _ _ _ _ _ (by omega)).trans h.r1, (set_other _ _ _ _ _ _ (by omega)).trans h.r2, (set_other _ _ _ _ _ _ (by omega)).trans h.r3, (set_other _ _ _ _ _ _ (by omega)).trans h.r4, World.cell?_setCell_same _ _ _ h.p0, (set_other _ _ _ _ _ _ (by omega)).trans h.p1, (set_other _ _ _ _ _ _ (by omega)).trans h.q, (set_other _ _ _ _ _ _ (by omega)).trans h.d0, (set_other _ _ _ _ _ _ (by omega)).trans h.d1, (set_other _ _ _ _ _ _ (by omega)).trans h.d2, (set_other _ _ _ _ _ _ (by omega)).trans h.d3, (set_other _ _ _ _ _ _ (by omega)).trans h.d4, fun j => by simp only [frozen?_setCell]; exact h.f j⟩
theorem Rd.setB (h : Rd W h0 h1 h2 h3 h4 s u b v0 v1 v2 v3 v4 wx) (t : Bool) : Rd W h0 h1 h2 h3 h4 s u t v0 v1 v2 v3 v4 (wx.setCell ⟨h2, 1, none⟩ (.bool t)) := by
  obtain ⟨n1, n2, n3, n4, n5, n6, n7, n8, n9⟩ := h.n
  exact ⟨h.bl.setCell (p := ⟨h2, 1, none⟩) h.g2 _, h.g1, h.g2, h.g4, h.n, (set_other _ _ _ _ _ _ (by omega)).trans h.c0, (set_other _ _ _ _ _ _ (by omega)).trans h.r0, (set_other _ _ _ _ _ _ (by omega)).trans h.r1, (set_other _ _ _ _ _ _ (by omega)).trans h.r2, (set_other _ _ _ _ _ _ (by omega)).trans h.r3, (set_other _ _ _ _ _ _ (by omega)).trans h.r4, (set_other _ _ _ _ _ _ (by omega)).trans h.p0, World.cell?_setCell_same _ _ _ h.p1, (set_other _ _ _ _ _ _ (by omega)).trans h.q, (set_other _ _ _ _ _ _ (by omega)).trans h.d0, (set_other _ _ _ _ _ _ (by omega)).trans h.d1, (set_other _ _ _ _ _ _ (by omega)).trans h.d2, (set_other _ _ _ _ _ _ (by omega)).trans h.d3, (set_other _ _ _ _ _ _ (by omega)).trans h.d4, fun j => by simp only [frozen?_setCell]; exact h.f j⟩
theorem Rd.setD0 (h : Rd W h0 h1 h2 h3 h4 s u b v0 v1 v2 v3 v4 wx) (t : Value) : Rd W h0 h1 h2 h3 h4 s u b t v1 v2 v3 v4 (wx.setCell ⟨h4, 0, none⟩ (t)) := by
  obtain ⟨n1, n2, n3, n4, n5, n6, n7, n8, n9⟩ := h.n
  exact ⟨h.bl.setCell (p := ⟨h4, 0, none⟩) h.g4 _, h.g1, h.g2, h.g4, h.n, (set_other _ _ _ _ _ _ (by omega)).trans h.c0, (set_other _ _ _ _ _ _ (by omega)).trans h.r0, (set_other _ _ _ _ _ _ (by omega)).trans h.r1, (set_other _ _ _ _ _ _ (by omega)).trans h.r2, (set_other _ _ _ _ _ _ (by omega)).trans h.r3, (set_other _ _ _ _ _ _ (by omega)).trans h.r4, (set_other _ _ _ _ _ _ (by omega)).trans h.p0, (set_other _ _ _ _ _ _ (by omega)).trans h.p1, (set_other _ _ _ _ _ _ (by omega)).trans h.q, World.cell?_setCell_same _ _ _ h.d0, (set_other _ _ _ _ _ _ (by omega)).trans h.d1, (set_other _ _ _ _ _ _ (by omega)).trans h.d2, (set_other _ _ _ _ _ _ (by omega)).trans h.d3, (set_other _ _ _ _ _ _ (by omega)).trans h.d4, fun j => by simp only [frozen?_setCell]; exact h.f j⟩
theorem Rd.setD1 (h : Rd W h0 h1 h2 h3 h4 s u b v0 v1 v2 v3 v4 wx) (t : Value) : Rd W h0 h1 h2 h3 h4 s u b v0 t v2 v3 v4 (wx.setCell ⟨h4, 1, none⟩ (t)) := by
  obtain ⟨n1, n2, n3, n4, n5, n6, n7, n8, n9⟩ := h.n
  exact ⟨h.bl.setCell (p := ⟨h4, 1, none⟩) h.g4 _, h.g1, h.g2, h.g4, h.n, (set_other _ _ _ _ _ _ (by omega)).trans h.c0, (set_other _ _ _ _ _ _ (by omega)).trans h.r0, (set_other _ _ _ _ _ _ (by omega)).trans h.r1, (set_other _ _ _ _ _ _ (by omega)).trans h.r2, (set_other _ _ _ _ _ _ (by omega)).trans h.r3, (set_other _ _ _ _ _ _ (by omega)).trans h.r4, (set_other _ _ _ _ _ _ (by omega)).trans h.p0, (set_other _ _ _ _ _ _ (by omega)).trans h.p1, (set_other _ _ _ _ _ _ (by omega)).trans h.q, (set_other _ _ _ _ _ _ (by omega)).trans h.d0, World.cell?_setCell_same _ _ _ h.d1, (set_other _ _ _ _ _ _ (by omega)).trans h.d2, (set_other _ _ _ _ _ _ (by omega)).trans h.d3, (set_other _ _ _ _ _ _ (by omega)).trans h.d4, fun j => by simp only [frozen?_setCell]; exact h.f j⟩
theorem Rd.setD2 (h : Rd W h0 h1 h2 h3 h4 s u b v0 v1 v2 v3 v4 wx) (t : Value) : Rd W h0 h1 h2 h3 h4 s u b v0 v1 t v3 v4 (wx.setCell ⟨h4, 2, none⟩ (t)) := by
  obtain ⟨n1, n2, n3, n4, n5, n6, n7, n8, n9⟩ := h.n
  exact ⟨h.bl.setCell (p := ⟨h4, 2, none⟩) h.g4 _, h.g1, h.g2, h.g4, h.n, (set_other _ _ _ _ _ _ (by omega)).trans h.c0, (set_other _ _ _ _ _ _ (by omega)).trans h.r0, (set_other _ _ _ _ _ _ (by omega)).trans h.r1, (set_other _ _ _ _ _ _ (by omega)).trans h.r2, (set_other _ _ _ _ _ _ (by omega)).trans h.r3, (set_other _ _ _ _ _ _ (by omega)).trans h.r4, (set_other _ _ _ _ _ _ (by omega)).trans h.p0, (set_other _ _ _ _ _ _ (by omega)).trans h.p1, (set_other _ _ _ _ _ _ (by omega)).trans h.q, (set_other _ _ _ _ _ _ (by omega)).trans h.d0, (set_other _ _ _ _ _ _ (by omega)).trans h.d1, World.cell?_setCell_same _ _ _ h.d2, (set_other _ _ _ _ _ _ (by omega)).trans h.d3, (set_other _ _ _ _ _ _ (by omega)).trans h.d4, fun j => by simp only [frozen?_setCell]; exact h.f j⟩
theorem Rd.setD3 (h : Rd W h0 h1 h2 h3 h4 s u b v0 v1 v2 v3 v4 wx) (t : Value) : Rd W h0 h1 h2 h3 h4 s u b v0 v1 v2 t v4 (wx.setCell ⟨h4, 3, none⟩ (t)) := by
  obtain ⟨n1, n2, n3, n4, n5, n6, n7, n8, n9⟩ := h.n
  exact ⟨h.bl.setCell (p := ⟨h4, 3, none⟩) h.g4 _, h.g1, h.g2, h.g4, h.n, (set_other _ _ _ _ _ _ (by omega)).trans h.c0, (set_other _ _ _ _ _ _ (by omega)).trans h.r0, (set_other _ _ _ _ _ _ (by omega)).trans h.r1, (set_other _ _ _ _ _ _ (by omega)).trans h.r2, (set_other _ _ _ _ _ _ (by omega)).trans h.r3, (set_other _ _ _ _ _ _ (by omega)).trans h.r4, (set_other _ _ _ _ _ _ (by omega)).trans h.p0, (set_other _ _ _ _ _ _ (by omega)).trans h.p1, (set_other _ _ _ _ _ _ (by omega)).trans h.q, (set_other _ _ _ _ _ _ (by omega)).trans h.d0, (set_other _ _ _ _ _ _ (by omega)).trans h.d1, (set_other _ _ _ _ _ _ (by omega)).trans h.d2, World.cell?_setCell_same _ _ _ h.d3, (set_other _ _ _ _ _ _ (by omega)).trans h.d4, fun j => by simp only [frozen?_setCell]; exact h.f j⟩
theorem Rd.setD4 (h : Rd W h0 h1 h2 h3 h4 s u b v0 v1 v2 v3 v4 wx) (t : Value) : Rd W h0 h1 h2 h3 h4 s u b v0 v1 v2 v3 t (wx.setCell ⟨h4, 4, none⟩ (t)) := by
  obtain ⟨n1, n2, n3, n4, n5, n6, n7, n8, n9⟩ := h.n
  exact ⟨h.bl.setCell (p := ⟨h4, 4, none⟩) h.g4 _, h.g1, h.g2, h.g4, h.n, (set_other _ _ _ _ _ _ (by omega)).trans h.c0, (set_other _ _ _ _ _ _ (by omega)).trans h.r0, (set_other _ _ _ _ _ _ (by omega)).trans h.r1, (set_other _ _ _ _ _ _ (by omega)).trans h.r2, (set_other _ _ _ _ _ _ (by omega)).trans h.r3, (set_other _ _ _ _ _ _ (by omega)).trans h.r4, (set_other _ _ _ _ _ _ (by omega)).trans h.p0, (set_other _ _ _ _ _ _ (by omega)).trans h.p1, (set_other _ _ _ _ _ _ (by omega)).trans h.q, (set_other _ _ _ _ _ _ (by omega)).trans h.d0, (set_other _ _ _ _ _ _ (by omega)).trans h.d1, (set_other _ _ _ _ _ _ (by omega)).trans h.d2, (set_other _ _ _ _ _ _ (by omega)).trans h.d3, World.cell?_setCell_same _ _ _ h.d4, fun j => by simp only [frozen?_setCell]; exact h.f j⟩
theorem Rd.drewN (h : Rd W h0 h1 h2 h3 h4 s u b v0 v1 v2 v3 v4 wx) (k : Nat) : Rd W h0 h1 h2 h3 h4 s u b v0 v1 v2 v3 v4 (wx.drewN k) := ⟨below_drewN h.bl k, h.g1, h.g2, h.g4, h.n, h.c0, h.r0, h.r1, h.r2, h.r3, h.r4, h.p0, h.p1, h.q, h.d0, h.d1, h.d2, h.d3, h.d4, h.f⟩
theorem Rd.drew (h : Rd W h0 h1 h2 h3 h4 s u b v0 v1 v2 v3 v4 wx) : Rd W h0 h1 h2 h3 h4 s u b v0 v1 v2 v3 v4 wx.drew := h.drewN 1
end
def UsP (s u : ByteArray) (w : World) (e : Ending) (w' : World) : Prop := e = .returned (.int .i64 ((s.size - u.size : Nat) : Int)) ∧ ∃ k, w' = w.drewN k
theorem used_any {W wx : World} {h0 h1 h2 h3 h4 : Nat} {s u : ByteArray} {b : Bool} {v0 v1 v2 v3 v4 : Value} (h : Rd W h0 h1 h2 h3 h4 s u b v0 v1 v2 v3 v4 wx) (hs : s.size ≤ 1000) (hu : u.size ≤ s.size) :
    Calls Try.prog 11 #[.pointer (some ⟨h0, 0, none⟩), .pointer (some ⟨h3, 0, none⟩)] wx (UsP s u wx) := by
  have c0 := h.c0
  have q := h.q
  have p0 := h.p0
  clear h
  have hz : (s.size : Int) - (u.size : Int) = ((s.size - u.size : Nat) : Int) := by omega
  have hzH := Lib.hid hz
  clear hz
  go_enter Try.func11, Try.ntmps11
  go_wp2_with fail
  go_quiet (fail)
  go_wp2_with fail
  go_ret
  exact ⟨ret_int hzH.out, _, rfl⟩
def Z0 : Value := .int .u8 0
/-- Where Parse ends with a command. -/
theorem pend (s : ByteArray) (W : World) (a : Act) (w : World) (h1 : Nat) (c : Cm) (n k : Nat) (hk : kp (lst s) = (c, n, k)) (hB : Below W.heap.size W w) (hg : W.heap.size ≤ h1) {z0 z1 z2 z3 z4 : Value} (hd : a.defers = []) (h2 : a.tmps.getD 2 undef = .pointer (some ⟨h1, 0, none⟩)) (h3 : a.tmps.getD 3 undef = .int .i64 n) (h4 : a.tmps.getD 4 undef = .int .i64 k)
    (r0 : w.cell? ⟨h1, 0, none⟩ = some z0) (r1 : w.cell? ⟨h1, 1, none⟩ = some z1) (r2 : w.cell? ⟨h1, 2, none⟩ = some z2) (r3 : w.cell? ⟨h1, 3, none⟩ = some z3) (r4 : w.cell? ⟨h1, 4, none⟩ = some z4) {v4 : Value} (hv : v4 = .string ⟨c.arg.toArray⟩) :
    bodyPost Try.prog Try.f5 (KP s W) .ret a (put5 w h1 (.int .u8 c.reg.toNat) (.int .i64 c.n) (.int .u8 c.op.toNat) (.int .u8 c.move.toNat) v4) := by
  subst hv
  obtain ⟨c0, c1, c2, c3, c4⟩ := set5 (v0 := .int .u8 c.reg.toNat) (v1 := .int .i64 c.n) (v2 := .int .u8 c.op.toNat) (v3 := .int .u8 c.move.toNat) (v4 := .string ⟨c.arg.toArray⟩) r0 r1 r2 r3 r4
  exact ⟨hd, _, keys_results a.tmps _ h1 _ _ _ _ _ h2 c0 c1 c2 c3 c4, by rw [h3, h4]; exact ⟨by rw [hk]; rfl, put5_below hB hg _ _ _ _ _⟩⟩
theorem lst_drop (u : ByteArray) (k : Nat) : lst (u.extract k u.size) = (lst u).drop k := by
  unfold lst
  rw [ByteArray.data_extract, Array.toList_extract, List.extract_eq_take_drop]
  exact List.take_of_length_le (by rw [List.length_drop]; exact Nat.le_refl _)
section
variable {W wx : World} {h0 h1 h2 h3 h4 : Nat} {s u : ByteArray} {b : Bool} {v0 v1 v2 v3 v4 : Value}
theorem used_rd (h : Rd W h0 h1 h2 h3 h4 s u b v0 v1 v2 v3 v4 wx) (hs : s.size ≤ 1000) (hu : u.size ≤ s.size) :
    Calls Try.prog 11 #[.pointer (some ⟨h0, 0, none⟩), .pointer (some ⟨h3, 0, none⟩)] wx fun e w' => e = .returned (.int .i64 ((s.size - u.size : Nat) : Int)) ∧ Rd W h0 h1 h2 h3 h4 s u b v0 v1 v2 v3 v4 w' :=
  (used_any h hs hu).mono fun e w' ⟨h1, k, h2⟩ => ⟨h1, by subst h2; exact h.drewN k⟩
theorem next_rd_none (h : Rd W h0 h1 h2 h3 h4 s u b v0 v1 v2 v3 v4 wx) (hu : u.size = 0) :
    Calls Try.prog 12 #[.pointer (some ⟨h2, 0, none⟩)] wx fun e w' => e = .returned (.tuple #[.int .u8 0, .bool false]) ∧ Rd W h0 h1 h2 h3 h4 s u b v0 v1 v2 v3 v4 w' :=
  (next_none h2 u wx h.p0 hu).mono fun e w' ⟨h1, h2⟩ => ⟨h1, by subst h2; exact h⟩
theorem next_rd_some (h : Rd W h0 h1 h2 h3 h4 s u b v0 v1 v2 v3 v4 wx) (hu : 0 < u.size) :
    Calls Try.prog 12 #[.pointer (some ⟨h2, 0, none⟩)] wx fun e w' => e = .returned (.tuple #[.int .u8 u[0].toNat, .bool true]) ∧ Rd W h0 h1 h2 h3 h4 s (u.extract 1 u.size) b v0 v1 v2 v3 v4 w' :=
  (next_some h2 u wx h.p0 (h.f 0).2.1 hu).mono fun e w' ⟨h1, h2⟩ => ⟨h1, by subst h2; exact h.setU _⟩
def CRd (W : World) (h0 h1 h2 h3 h4 : Nat) (s u : ByteArray) (b : Bool) (v0 v1 v2 v3 v4 : Value) (e : Ending) (w' : World) : Prop :=
  ∃ (t : ByteArray) (k : Nat), Hid (ct 0 (lst u) = (k, lst t)) ∧ t.size ≤ u.size ∧ k ≤ 9999 ∧ e = .returned (.int .i64 k) ∧ Hid (Rd W h0 h1 h2 h3 h4 s t b v0 v1 v2 v3 v4 w')
theorem count_rd (h : Rd W h0 h1 h2 h3 h4 s u b v0 v1 v2 v3 v4 wx) (hu : u.size ≤ 1000) :
    Calls Try.prog 13 #[.pointer (some ⟨h2, 0, none⟩)] wx (CRd W h0 h1 h2 h3 h4 s u b v0 v1 v2 v3 v4) :=
  (count_any h2 u hu wx h.p0 (h.f 0).2.1).mono fun e w' ⟨t, e1, e2, e3, e4⟩ => ⟨t, _, Lib.hid (by rw [e1]), e2, ct_le _ _ (by decide), e3, by subst e4; exact Lib.hid (h.setU t)⟩
theorem arg_rd (key : UInt8) (h : Rd W h0 h1 h2 h3 h4 s u false v0 v1 v2 v3 v4 wx) (hu : u.size ≤ 1000) :
    Calls Try.prog 15 #[.pointer (some ⟨h2, 0, none⟩), .int .u8 key.toNat] wx fun e w' => e = .returned (.tuple #[.string (u.extract 0 (min (argn key) u.size)), .bool (decide (min (argn key) u.size = argn key))]) ∧ Rd W h0 h1 h2 h3 h4 s (u.extract (min (argn key) u.size) u.size) ((lst (u.extract 0 (min (argn key) u.size))).any (fun x => !okA (argn key) x)) v0 v1 v2 v3 v4 w' :=
  (arg_any key h2 u hu wx h.p0 h.p1 (h.f 0).2.1 (h.f 1).2.1).mono fun e w' ⟨h1, h2⟩ => ⟨h1, by subst h2; exact (h.drew.setB _).setU _⟩
end
theorem has_is (t : ByteArray) (p : UInt8 → Bool) (hp : ∀ c, decide (0 ≤ Lib.indexByte t.data.toList c) = p c) (c : UInt8) (W : World) : Calls Try.prog 14 #[.string t, .int .u8 c.toNat] W fun e w' => e = .returned (.bool (p c)) ∧ W = w' := by
  rw [← hp c]
  exact has_any t c W
theorem Rd_init (s : ByteArray) (W : World) : Rd W W.heap.size (W.heap.size + 1) (W.heap.size + 1 + 1) (W.heap.size + 1 + 1 + 1) (W.heap.size + 1 + 1 + 1 + 1) s s false (.int .u8 0) (.int .i64 0) (.int .u8 0) (.int .u8 0) (.string ⟨#[]⟩)
    (((((W.alloc (.cells #[.string s] 9)).alloc (.cells #[.int .u8 0, .int .i64 0, .int .u8 0, .int .u8 0, .string ⟨#[]⟩] 26)).alloc (.cells #[.string s, .bool false] 37)).alloc (.cells #[.pointer (some ⟨W.heap.size + 1 + 1, 0, none⟩)] 35)).alloc (.cells #[.int .u8 0, .int .i64 0, .int .u8 0, .int .u8 0, .string ⟨#[]⟩] 26)) := by
  refine ⟨(((((Below.refl _ _).alloc (Nat.le_refl _) _).alloc (by simp) _).alloc (by simp; omega) _).alloc (by simp; omega) _).alloc (by simp; omega) _, by omega, by omega, by omega, by omega, ?_, ?_, ?_, ?_, ?_, ?_, ?_, ?_, ?_, ?_, ?_, ?_, ?_, ?_, fun j => ⟨?_, ?_, ?_⟩⟩
  · rw [World.cell?_alloc_past _ _ _ (by simp <;> omega), World.cell?_alloc_past _ _ _ (by simp <;> omega), World.cell?_alloc_past _ _ _ (by simp <;> omega), World.cell?_alloc_past _ _ _ (by simp <;> omega), World.cell?_alloc_at _ _ _ _ (by simp)]; rfl
  · rw [World.cell?_alloc_past _ _ _ (by simp <;> omega), World.cell?_alloc_past _ _ _ (by simp <;> omega), World.cell?_alloc_past _ _ _ (by simp <;> omega), World.cell?_alloc_at _ _ _ _ (by simp)]; rfl
  · rw [World.cell?_alloc_past _ _ _ (by simp <;> omega), World.cell?_alloc_past _ _ _ (by simp <;> omega), World.cell?_alloc_past _ _ _ (by simp <;> omega), World.cell?_alloc_at _ _ _ _ (by simp)]; rfl
  · rw [World.cell?_alloc_past _ _ _ (by simp <;> omega), World.cell?_alloc_past _ _ _ (by simp <;> omega), World.cell?_alloc_past _ _ _ (by simp <;> omega), World.cell?_alloc_at _ _ _ _ (by simp)]; rfl
  · rw [World.cell?_alloc_past _ _ _ (by simp <;> omega), World.cell?_alloc_past _ _ _ (by simp <;> omega), World.cell?_alloc_past _ _ _ (by simp <;> omega), World.cell?_alloc_at _ _ _ _ (by simp)]; rfl
  · rw [World.cell?_alloc_past _ _ _ (by simp <;> omega), World.cell?_alloc_past _ _ _ (by simp <;> omega), World.cell?_alloc_past _ _ _ (by simp <;> omega), World.cell?_alloc_at _ _ _ _ (by simp)]; rfl
  · rw [World.cell?_alloc_past _ _ _ (by simp <;> omega), World.cell?_alloc_past _ _ _ (by simp <;> omega), World.cell?_alloc_at _ _ _ _ (by simp)]; rfl
  · rw [World.cell?_alloc_past _ _ _ (by simp <;> omega), World.cell?_alloc_past _ _ _ (by simp <;> omega), World.cell?_alloc_at _ _ _ _ (by simp)]; rfl
  · rw [World.cell?_alloc_past _ _ _ (by simp <;> omega), World.cell?_alloc_at _ _ _ _ (by simp)]; rfl
  · rw [World.cell?_alloc_at _ _ _ _ (by simp)]; rfl
  · rw [World.cell?_alloc_at _ _ _ _ (by simp)]; rfl
  · rw [World.cell?_alloc_at _ _ _ _ (by simp)]; rfl
  · rw [World.cell?_alloc_at _ _ _ _ (by simp)]; rfl
  · rw [World.cell?_alloc_at _ _ _ _ (by simp)]; rfl
  · rw [World.frozen?_alloc_past _ _ _ (by simp <;> omega), World.frozen?_alloc_past _ _ _ (by simp <;> omega), World.frozen?_alloc_past _ _ _ (by simp <;> omega), World.frozen?_alloc_at _ _ _ _ (by simp)]
  · rw [World.frozen?_alloc_past _ _ _ (by simp <;> omega), World.frozen?_alloc_past _ _ _ (by simp <;> omega), World.frozen?_alloc_at _ _ _ _ (by simp)]
  · rw [World.frozen?_alloc_at _ _ _ _ (by simp)]
end Go.Proofs.Ytifnochpmlllgaa.Key
