/-
  PROVED HERE: the contracts of piece's Len, Of, At, Edit. Conditions: as each theorem states.
-/
import Derived.Test.YtfckhkpheahgaaaDoorPcG
import Derived.Test.YtfckhkpheahgaaaDoorErrB
namespace Go.Proofs.YtfckhkpheahgaaaDoor.Pc
open Go.RowKit
theorem len_any (w : World) (p : Option Addr) (x : List UInt8) (h : Has w (.pointer p) x) : Calls Tryd.prog 7 #[.agg #[.pointer p]] w fun e w' => e = .returned (.int .i64 (x.length : Nat)) ∧ Below w.heap.size w w' := by
  obtain ⟨T, h1, h2, rfl⟩ := h
  have S := Lib.hid (fun W (hW : Below w.heap.size w W) => size_any W _ _ (h1.below hW))
  clear h1 h2
  generalize T.txt.length = n at *
  go_enter Tryd.func7, Tryd.ntmps7
  go_wp2_with fail
  refine (S.out _ ((Below.refl _ _).alloc (Nat.le_refl _) _)).mono ?_; rintro e w' ⟨rfl, rfl⟩
  go_wp2_with fail
  go_ret
  exact ⟨rfl, (Below.refl _ _).alloc (Nat.le_refl _) _⟩
theorem IsT.setCell {w : World} {k : Nat} {x : Option Addr} (hc : w.cell? ⟨k, 0, none⟩ = some (.pointer x)) (u : Value) : ∀ {v : Value} {T : Tr}, IsT w v T → IsT (w.setCell ⟨k, 0, none⟩ u) v T
  | _, .nil, h => h
  | _, .node _ _ _, ⟨b, vl, vr, e, c0, c1, c2, c3, c4, hl, hr⟩ => by
    have hb : b ≠ k := fun h => by rw [h, hc] at c0; cases c0
    have o : ∀ j, (w.setCell ⟨k, 0, none⟩ u).cell? ⟨b, j, none⟩ = w.cell? ⟨b, j, none⟩ := fun j => World.cell?_setCell_other _ _ _ _ (fun h => hb (by injection h with h; exact h.symm))
    exact ⟨b, vl, vr, e, (o 0).trans c0, (o 1).trans c1, (o 2).trans c2, (o 3).trans c3, (o 4).trans c4, hl.setCell hc u, hr.setCell hc u⟩
theorem Has.setCell {w : World} {k : Nat} {x : Option Addr} {v : Value} {s : List UInt8} (h : Has w v s) (hc : w.cell? ⟨k, 0, none⟩ = some (.pointer x)) (u : Value) : Has (w.setCell ⟨k, 0, none⟩ u) v s := by
  obtain ⟨T, h1, h2, h3⟩ := h
  exact ⟨T, h1.setCell hc u, h2, h3⟩
def TextP (x : List UInt8) (w : World) (e : Ending) (w' : World) : Prop := ∃ p, e = .returned (.agg #[.pointer p]) ∧ Has w' (.pointer p) x ∧ Below w.heap.size w w'
theorem str_nil (s : ByteArray) : (s.size = 0 ↔ s.toList = []) := by
  rw [ByteArray.toList_eq]
  have e : s.data.toList.length = s.size := rfl
  constructor
  · intro h; exact List.eq_nil_of_length_eq_zero (by rw [e]; exact h)
  · intro h; rw [h] at e; exact e.symm
theorem of_any (w : World) (s : ByteArray) (hs : s.size ≤ 50000) : Calls Tryd.prog 4 #[.string s] w (TextP (lst s) w) := by
  by_cases h : s.size = 0
  · have he : s.toList = [] := (str_nil s).1 h
    have he2 : s.toList.isEmpty = true := by rw [he]; rfl
    have hl : lst s = [] := List.eq_nil_of_length_eq_zero h
    rw [hl]
    clear hl h
    go_enter Tryd.func4, Tryd.ntmps4
    go_wp2_with fail
    refine bodyPost_ret (v := .agg #[.pointer none]) (by simp [results, Tryd.results4, go_sem]) rfl ⟨none, rfl, has_nil _, ?_⟩
    exact (Below.refl _ _).alloc (Nat.le_refl _) _
  · have he2 : s.toList.isEmpty = false := str_full s (by omega)
    have C := Lib.hid (fun W => join_fit W none none .nil .nil s rfl rfl ⟨trivial, by simp [Tr.txt]⟩ ⟨trivial, by simp [Tr.txt]⟩ hs)
    have h1 : 1 ≤ s.size := by omega
    go_enter Tryd.func4, Tryd.ntmps4
    go_wp2_with fail
    refine (C.out _).mono ?_; rintro e w1 ⟨p1, rfl, i1, b1⟩
    have I1 := Lib.hid i1
    have B1 := Lib.hid b1
    have hc : w1.cell? ⟨w.heap.size, 0, none⟩ = some (.pointer none) := keepCell b1 (new_cell _ _ _)
    have hf : w1.frozen? ⟨w.heap.size, 0, none⟩ = false := keepFree b1 (new_cell _ _ _) (World.frozen?_alloc_new _ _ _ _)
    clear i1 b1
    go_wp2_with fail
    have hb : Below w.heap.size w (w1.setCell ⟨w.heap.size, 0, none⟩ (.pointer p1)) := (((Below.refl _ _).alloc (Nat.le_refl _) _).trans (B1.out.mono (by simp))).setCell (p := ⟨w.heap.size, 0, none⟩) (Nat.le_refl _) _
    have hH : Has (w1.setCell ⟨w.heap.size, 0, none⟩ (.pointer p1)) (.pointer p1) (lst s) := by
      have := I1.out.has (⟨trivial, h1, trivial⟩ : (Tr.node .nil s .nil).NE)
      rw [txt_node] at this
      simp only [Tr.txt, List.nil_append, List.append_nil] at this
      exact this.setCell hc _
    refine bodyPost_ret (v := .agg #[.pointer p1]) (by simp [results, Tryd.results4, go_sem, hc]) rfl ⟨p1, rfl, hH, hb⟩
/-- No error, or the bare error of number c. -/
def NErr (u : Value) (c : Int) : Prop := (u = .nilIface ∧ c = 0) ∨ (u = .iface 36 (.int .i64 c) ∧ c ≠ 0)
theorem NErr.is {u : Value} {c : Int} (h : NErr u c) (w : World) : Err.ErrIs w u c (-1) := by
  rcases h with ⟨rfl, rfl⟩ | ⟨rfl, _⟩
  · exact .inl ⟨rfl, rfl, rfl⟩
  · exact .inr (.inl ⟨rfl, rfl⟩)
theorem NErr.nil {u : Value} (h : NErr u 0) : u = .nilIface := by
  rcases h with ⟨rfl, _⟩ | ⟨_, h⟩
  · rfl
  · exact absurd rfl h
/-- What Edit leaves: another text, and an error's number. -/
def EditP (x : List UInt8) (c : Int) (w : World) (e : Ending) (w' : World) : Prop := ∃ p v, e = .returned (.tuple #[.agg #[.pointer p], v]) ∧ Has w' (.pointer p) x ∧ Err.ErrIs w' v c (-1) ∧ Below w.heap.size w w'
set_option maxRecDepth 100000 in
set_option maxHeartbeats 2000000 in
theorem edit_range (w : World) (p : Option Addr) (x : List UInt8) (a o : Int) (s : ByteArray) (h : Has w (.pointer p) x) (hx : x.length ≤ 4000) (hr : a < 0 ∨ o < 0 ∨ ((x.length : Nat) : Int) - o < a) (ho2 : -9223372036854775808 ≤ o ∧ o ≤ 9223372036854775807) : Calls Tryd.prog 5 #[.agg #[.pointer p], .int .i64 a, .int .i64 o, .string s] w (EditP [] 2 w) := by
  have L := Lib.hid (fun W (hW : Below w.heap.size w W) => len_any W p x (h.below hW))
  clear h
  by_cases h1 : a < 0
  · have h1d : decide (a < 0) = true := decide_eq_true h1
    go_enter Tryd.func5, Tryd.ntmps5
    go_wp2_with fail
    refine bodyPost_ret (v := .tuple #[.agg #[.pointer none], .iface 36 (.int .i64 2)]) (by simp [results, Tryd.results5, go_sem]) rfl ⟨none, _, rfl, has_nil _, .inr (.inl ⟨rfl, rfl⟩), ?_⟩
    exact ((Below.refl _ _).alloc (Nat.le_refl _) _).alloc (by simp) _
  · by_cases h2 : o < 0
    · have h1d : decide (a < 0) = false := decide_eq_false h1
      have h2d : decide (o < 0) = true := decide_eq_true h2
      go_enter Tryd.func5, Tryd.ntmps5
      go_wp2_with fail
      refine bodyPost_ret (v := .tuple #[.agg #[.pointer none], .iface 36 (.int .i64 2)]) (by simp [results, Tryd.results5, go_sem]) rfl ⟨none, _, rfl, has_nil _, .inr (.inl ⟨rfl, rfl⟩), ?_⟩
      exact ((Below.refl _ _).alloc (Nat.le_refl _) _).alloc (by simp) _
    · have h1d : decide (a < 0) = false := decide_eq_false h1
      have h2d : decide (o < 0) = false := decide_eq_false h2
      have h3 : ((x.length : Nat) : Int) - o < a := by omega
      have hxl : ((x.length : Nat) : Int) ≤ 4000 := by omega
      have ho : 0 ≤ o := by omega
      have h3d : decide (((x.length : Nat) : Int) - o < a) = true := decide_eq_true h3
      have W0 : IntKind.i64.wrap (((x.length : Nat) : Int) - o) = ((x.length : Nat) : Int) - o := IntWalk.i64_in _ (by omega)
      clear hr
      generalize x.length = n at *
      go_enter Tryd.func5, Tryd.ntmps5
      go_wp2_with fail
      refine (L.out _ (((Below.refl _ _).alloc (Nat.le_refl _) _).alloc (by simp) _)).mono ?_; rintro e w1 ⟨rfl, hb1⟩
      have B1 := Lib.hid ((((Below.refl w.heap.size w).alloc (Nat.le_refl _) (.cells #[.pointer p] 26)).alloc (by simp) (.cells #[.pointer none] 26)).trans (hb1.mono (by simp; omega)))
      have hc : w1.cell? ⟨w.heap.size + 1, 0, none⟩ = some (.pointer none) := keepCell hb1 (by simp)
      have hf : w1.frozen? ⟨w.heap.size + 1, 0, none⟩ = false := keepFree hb1 (x := .pointer none) (by simp) (by simp)
      clear hb1
      go_wp2_with fail
      refine bodyPost_ret (v := .tuple #[.agg #[.pointer none], .iface 36 (.int .i64 2)]) (by simp [results, Tryd.results5, go_sem, hc]) rfl ⟨none, _, rfl, has_nil _, .inr (.inl ⟨rfl, rfl⟩), ?_⟩
      exact B1.out.setCell (p := ⟨w.heap.size + 1, 0, none⟩) (by simp) _
set_option maxRecDepth 100000 in
set_option maxHeartbeats 2000000 in
theorem edit_full (w : World) (p : Option Addr) (x : List UInt8) (a o : Int) (s : ByteArray) (h : Has w (.pointer p) x) (hx : x.length ≤ 4000) (ha : 0 ≤ a) (ho : 0 ≤ o) (hr : a ≤ ((x.length : Nat) : Int) - o) (hl : 4000 < x.length - o + s.size) : Calls Tryd.prog 5 #[.agg #[.pointer p], .int .i64 a, .int .i64 o, .string s] w (EditP [] 12 w) := by
  have L := Lib.hid (fun W (hW : Below w.heap.size w W) => len_any W p x (h.below hW))
  have HX := Lib.hid h
  clear h
  obtain ⟨a, rfl⟩ := Int.eq_ofNat_of_zero_le ha
  obtain ⟨o, rfl⟩ := Int.eq_ofNat_of_zero_le ho
  have h1d : decide ((a : Int) < 0) = false := decide_eq_false (by omega)
  have h2d : decide ((o : Int) < 0) = false := decide_eq_false (by omega)
  have hao : a + o ≤ x.length := by omega
  have h3d : decide (((x.length : Nat) : Int) - (o : Int) < (a : Int)) = false := decide_eq_false (by omega)
  have W0 : IntKind.i64.wrap (((x.length : Nat) : Int) - (o : Int)) = ((x.length : Nat) : Int) - (o : Int) := IntWalk.i64_in _ (by omega)
  have W1 : IntKind.i64.wrap (4000 - (((x.length : Nat) : Int) - (o : Int))) = 4000 - (((x.length : Nat) : Int) - (o : Int)) := IntWalk.i64_in _ (by omega)
  have h4 : 4000 - (((x.length : Nat) : Int) - (o : Int)) < (s.size : Int) := by omega
  have h4d : decide (4000 - (((x.length : Nat) : Int) - (o : Int)) < (s.size : Int)) = true := decide_eq_true h4
  clear hl hr ha ho
  generalize x.length = n at *
  go_enter Tryd.func5, Tryd.ntmps5
  go_wp2_with fail
  refine (L.out _ (((Below.refl _ _).alloc (Nat.le_refl _) _).alloc (by simp) _)).mono ?_; rintro e w1 ⟨rfl, hb1⟩
  have B1 := Lib.hid ((((Below.refl w.heap.size w).alloc (Nat.le_refl _) (.cells #[.pointer p] 26)).alloc (by simp) (.cells #[.pointer none] 26)).trans (hb1.mono (by simp; omega)))
  have hz1 := hb1.size
  simp only [World.size_alloc] at hz1
  have hc : w1.cell? ⟨w.heap.size + 1, 0, none⟩ = some (.pointer none) := keepCell hb1 (by simp)
  have hd : w1.cell? ⟨w.heap.size, 0, none⟩ = some (.pointer p) := keepCell hb1 (by simp)
  have hf : w1.frozen? ⟨w.heap.size + 1, 0, none⟩ = false := keepFree hb1 (x := .pointer none) (by simp) (by simp)
  clear hb1
  go_wp2_with fail
  refine (L.out _ B1.out).mono ?_; rintro e w2 ⟨rfl, hb2⟩
  have B2 := Lib.hid (B1.out.trans (hb2.mono B1.out.size))
  have hc2 := keepCell hb2 hc
  have hd2 := keepCell hb2 hd
  have hf2 := keepFree hb2 hc hf
  have hz2 : w.heap.size + 2 ≤ w2.heap.size := by have := hb2.size; omega
  clear hb2 hc hd hf hz1
  go_wp2_with fail
  refine bodyPost_ret (v := .tuple #[.agg #[.pointer none], .iface 36 (.int .i64 12)]) (by simp [results, Tryd.results5, go_sem, hc2]) rfl ⟨none, _, rfl, has_nil _, .inr (.inl ⟨rfl, rfl⟩), ?_⟩
  exact B2.out.setCell (p := ⟨w.heap.size + 1, 0, none⟩) (by simp) _
set_option maxRecDepth 100000 in
set_option maxHeartbeats 2000000 in
theorem edit_ok (w : World) (p : Option Addr) (x : List UInt8) (a o : Int) (s : ByteArray) (h : Has w (.pointer p) x) (hx : x.length ≤ 4000) (ha : 0 ≤ a) (ho : 0 ≤ o) (hr : a ≤ ((x.length : Nat) : Int) - o) (hl : x.length - o + s.size ≤ 4000) :
    Calls Tryd.prog 5 #[.agg #[.pointer p], .int .i64 a, .int .i64 o, .string s] w (EditP (x.take a.toNat ++ lst s ++ x.drop (a.toNat + o.toNat)) 0 w) := by
  have L := Lib.hid (fun W (hW : Below w.heap.size w W) => len_any W p x (h.below hW))
  have HX := Lib.hid h
  clear h
  obtain ⟨a, rfl⟩ := Int.eq_ofNat_of_zero_le ha
  obtain ⟨o, rfl⟩ := Int.eq_ofNat_of_zero_le ho
  have h1d : decide ((a : Int) < 0) = false := decide_eq_false (by omega)
  have h2d : decide ((o : Int) < 0) = false := decide_eq_false (by omega)
  have hao : a + o ≤ x.length := by omega
  have h3d : decide (((x.length : Nat) : Int) - (o : Int) < (a : Int)) = false := decide_eq_false (by omega)
  have W0 : IntKind.i64.wrap (((x.length : Nat) : Int) - (o : Int)) = ((x.length : Nat) : Int) - (o : Int) := IntWalk.i64_in _ (by omega)
  have W1 : IntKind.i64.wrap (4000 - (((x.length : Nat) : Int) - (o : Int))) = 4000 - (((x.length : Nat) : Int) - (o : Int)) := IntWalk.i64_in _ (by omega)
  have h4 : ¬ 4000 - (((x.length : Nat) : Int) - (o : Int)) < (s.size : Int) := by omega
  have h4d : decide (4000 - (((x.length : Nat) : Int) - (o : Int)) < (s.size : Int)) = false := decide_eq_false h4
  have hsl : s.size ≤ 4000 := by omega
  have C1 := Lib.hid (fun W (hW : Below w.heap.size w W) => cut_has a (HX.out.below hW) (by omega) (by omega))
  clear hl hr ha ho
  simp only [Int.toNat_natCast]
  generalize hnx : x.length = n at *
  have HN := Lib.hid hnx
  clear hnx
  go_enter Tryd.func5, Tryd.ntmps5
  go_wp2_with fail
  refine (L.out _ (((Below.refl _ _).alloc (Nat.le_refl _) _).alloc (by simp) _)).mono ?_; rintro e w1 ⟨rfl, hb1⟩
  have B1 := Lib.hid ((((Below.refl w.heap.size w).alloc (Nat.le_refl _) (.cells #[.pointer p] 26)).alloc (by simp) (.cells #[.pointer none] 26)).trans (hb1.mono (by simp; omega)))
  have hz1 := hb1.size
  simp only [World.size_alloc] at hz1
  have hc : w1.cell? ⟨w.heap.size + 1, 0, none⟩ = some (.pointer none) := keepCell hb1 (by simp)
  have hd : w1.cell? ⟨w.heap.size, 0, none⟩ = some (.pointer p) := keepCell hb1 (by simp)
  have hf : w1.frozen? ⟨w.heap.size + 1, 0, none⟩ = false := keepFree hb1 (x := .pointer none) (by simp) (by simp)
  clear hb1
  go_wp2_with fail
  refine (L.out _ B1.out).mono ?_; rintro e w2 ⟨rfl, hb2⟩
  have B2 := Lib.hid (B1.out.trans (hb2.mono B1.out.size))
  have hc2 := keepCell hb2 hc
  have hd2 := keepCell hb2 hd
  have hf2 := keepFree hb2 hc hf
  have hz2 : w.heap.size + 2 ≤ w2.heap.size := by have := hb2.size; omega
  clear hb2 hc hd hf hz1
  go_wp2_with fail
  refine (C1.out _ B2.out).mono ?_; rintro e w3 ⟨p1, q1, rfl, hp1, hq1, hb3⟩
  have hc3 := keepCell hb3 hc2
  have hf3 := keepFree hb3 hc2 hf2
  have hz3 : w.heap.size + 2 ≤ w3.heap.size := by have := hb3.size; omega
  have B3 := Lib.hid (B2.out.trans (hb3.mono B2.out.size))
  have P1 := Lib.hid hp1
  have C2 := Lib.hid (cut_has o hq1 (by rw [List.length_drop, HN.out]; omega) (by rw [List.length_drop, HN.out]; omega))
  clear hb3 hp1 hq1 hc2 hd2 hf2 hz2
  go_wp2_with fail
  refine C2.out.mono ?_; rintro e w4 ⟨p2, q2, rfl, hp2, hq2, hb4⟩
  have hc4 := keepCell hb4 hc3
  have hf4 := keepFree hb4 hc3 hf3
  have hz4 : w.heap.size + 2 ≤ w4.heap.size := by have := hb4.size; omega
  have B4 := Lib.hid (B3.out.trans (hb4.mono B3.out.size))
  have P4 := Lib.hid (P1.out.below hb4)
  rw [List.drop_drop] at hq2
  have Q4 := Lib.hid hq2
  clear hb4 hp2 hq2 hc3 hf3 hz3
  by_cases h0 : s.size = 0
  · have hst : s.toList = [] := (str_nil s).1 h0
    have hst2 : s.toList.isEmpty = true := by rw [hst]; rfl
    have hls : lst s = [] := List.eq_nil_of_length_eq_zero h0
    have HLS := Lib.hid hls
    have C3 := Lib.hid (both_has P4.out Q4.out (by rw [List.length_take, List.length_drop, HN.out]; omega))
    clear h0 hls
    go_wp2_with fail
    refine C3.out.mono ?_; rintro e w5 ⟨p5, rfl, i5, hb5⟩
    have hc5 := keepCell hb5 hc4
    have hf5 := keepFree hb5 hc4 hf4
    have B5 := Lib.hid (B4.out.trans (hb5.mono B4.out.size))
    have I5 := Lib.hid i5
    clear hb5 i5 hc4 hf4 hz4
    go_wp2_with fail
    refine bodyPost_ret (v := .tuple #[.agg #[.pointer p5], .nilIface]) (by simp [results, Tryd.results5, go_sem, hc5]) rfl ⟨p5, _, rfl, by rw [HLS.out, List.append_nil]; exact I5.out.setCell hc5 _, .inl ⟨rfl, rfl, rfl⟩, ?_⟩
    exact B5.out.setCell (p := ⟨w.heap.size + 1, 0, none⟩) (by simp) _
  · have hst2 : s.toList.isEmpty = false := str_full s (by omega)
    have C3 := Lib.hid (between_has (t := s) P4.out Q4.out (by omega) (by rw [List.length_take, List.length_drop, HN.out]; omega))
    clear h0
    go_wp2_with fail
    refine C3.out.mono ?_; rintro e w5 ⟨p5, rfl, i5, hb5⟩
    have hc5 := keepCell hb5 hc4
    have hf5 := keepFree hb5 hc4 hf4
    have B5 := Lib.hid (B4.out.trans (hb5.mono B4.out.size))
    have I5 := Lib.hid i5
    clear hb5 i5 hc4 hf4 hz4
    go_wp2_with fail
    refine bodyPost_ret (v := .tuple #[.agg #[.pointer p5], .nilIface]) (by simp [results, Tryd.results5, go_sem, hc5]) rfl ⟨p5, _, rfl, I5.out.setCell hc5 _, .inl ⟨rfl, rfl, rfl⟩, ?_⟩
    exact B5.out.setCell (p := ⟨w.heap.size + 1, 0, none⟩) (by simp) _
end Go.Proofs.YtfckhkpheahgaaaDoor.Pc
