/-
  PROVED HERE: the contract of piece's At. Conditions: as each theorem states.
-/
import Derived.Test.YtfckhkpheahgaaaDoorPcH
import Derived.Deep.LoopGhost
namespace Go.Proofs.YtfckhkpheahgaaaDoor.Pc
open Go.RowKit
def AtP (v : Int) (c : Int) (w : World) (e : Ending) (w' : World) : Prop := ∃ u, e = .returned (.tuple #[.int .u8 v, u]) ∧ NErr u c ∧ Below w.heap.size w w'
def ARel (w0 : World) (y : UInt8) (g : Nat) (i p : Value) (wx : World) : Prop := ∃ (T : Tr) (k : Nat) (q : Option Addr), T.nodes ≤ g ∧ i = .int .i64 (k : Int) ∧ p = .pointer q ∧ k ≤ 50000 ∧ Hid (k < T.txt.length ∧ T.txt[k]? = some y) ∧ Hid (IsT wx (.pointer q) T) ∧ Hid (Fit T) ∧ Hid (Below w0.heap.size w0 wx)
set_option maxRecDepth 100000 in
set_option maxHeartbeats 2000000 in
theorem at_yes (w : World) (p : Option Addr) (x : List UInt8) (i : Nat) (h : Has w (.pointer p) x) (hx : x.length ≤ 4000) (hi : i < x.length) : Calls Tryd.prog 10 #[.agg #[.pointer p], .int .i64 (i : Int)] w (AtP ((x.getD i 0).toNat : Int) 0 w) := by
  have L := Lib.hid (fun W (hW : Below w.heap.size w W) => len_any W p x (h.below hW))
  have h1d : decide ((i : Int) < 0) = false := decide_eq_false (by omega)
  have h2d : decide (x.length ≤ i) = false := decide_eq_false (by omega)
  have h2e : decide (((x.length : Nat) : Int) ≤ (i : Int)) = false := decide_eq_false (by omega)
  obtain ⟨T, h1, h2, h3⟩ := h
  obtain ⟨y, hy⟩ : ∃ y, x[i]? = some y := ⟨x[i], List.getElem?_eq_getElem hi⟩
  have hyd : x.getD i 0 = y := by rw [List.getD_eq_getElem?_getD, hy]; rfl
  rw [hyd]
  have TX := Lib.hid (show i < T.txt.length ∧ T.txt[i]? = some y by rw [h3]; exact ⟨hi, hy⟩)
  have HT := Lib.hid h1
  have HF := Lib.hid (show Fit T from ⟨h2, by rw [h3]; omega⟩)
  have hi4 : i ≤ 50000 := by omega
  clear h1 h2 h3 hy hyd hi
  generalize x.length = n at *
  go_enter Tryd.func10, Tryd.ntmps10
  go_wp2_with fail
  refine (L.out _ ((Below.refl _ _).alloc (Nat.le_refl _) _)).mono ?_; rintro e w1 ⟨rfl, hb1⟩
  have B1 := Lib.hid (((Below.refl w.heap.size w).alloc (Nat.le_refl _) (.cells #[.pointer p] 26)).trans (hb1.mono (by simp)))
  have hd : w1.cell? ⟨w.heap.size, 0, none⟩ = some (.pointer p) := keepCell hb1 (by simp)
  clear hb1
  go_wp2_with fail
  go_loopg [1, 6] T.nodes (fun g i p wx => ARel w y g i p wx)
  case atStart => exact ⟨T, i, p, Nat.le_refl _, rfl, rfl, hi4, TX, Lib.hid (HT.out.below B1.out), HF, B1⟩
  case round =>
    clear hd B1 HT HF TX hi4 h1d h2d h2e
    obtain ⟨T, k, q, hg, rfl, rfl, hk, tx, ht, hf, hB⟩ := hrel
    have ht' := ht.out
    have hf' := hf.out
    have tx' := tx.out
    cases T with
    | nil => exact absurd tx'.1 (Nat.not_lt_zero _)
    | node a t c =>
      obtain ⟨b, vl, vr, e, c0, c1, c2, c3, c4, hl, hr⟩ := ht'
      obtain rfl : q = some ⟨b, 0, none⟩ := by injection e
      clear e c1 c2
      have S := Lib.hid (size_any _ _ _ hl)
      have hal : a.txt.length ≤ 50000 := hf'.left.2
      have htl : t.size ≤ 50000 := hf'.text.2
      have HL := Lib.hid hl
      have HR := Lib.hid hr
      have FA := Lib.hid hf'.left
      have FC := Lib.hid hf'.right
      simp only [Tr.nodes] at hg
      rw [len_node, txt_node, List.append_assoc] at tx'
      clear hl hr hf' ht hf tx
      have HX := Lib.hid tx'
      clear tx'
      obtain ⟨m, hm⟩ : ∃ m, a.txt.length = m := ⟨_, rfl⟩
      rw [hm] at S hal HX
      have HM := Lib.hid hm
      clear hm
      by_cases k1 : k < m
      · have k1' : (k : Int) < (m : Int) := by omega
        have NX := Lib.hid (show k < a.txt.length ∧ a.txt[k]? = some y by
          have := HX.out.2
          rw [List.getElem?_append_left (by rw [HM.out]; exact k1)] at this
          exact ⟨by rw [HM.out]; exact k1, this⟩)
        go_wp2_with fail
        refine S.out.mono ?_; rintro e w' ⟨rfl, rfl⟩
        go_wp2_with fail
        go_roundg a.nodes
        case measure => omega
        case rel => exact ⟨a, k, vl, Nat.le_refl _, rfl, rfl, hk, NX, HL, FA, hB⟩
      · by_cases k2 : k < m + t.size
        · obtain ⟨j, rfl⟩ : ∃ j, k = m + j := ⟨k - m, by omega⟩
          have hj : j < t.size := by omega
          have ty : t[j] = y := by
            have := HX.out.2
            rw [List.getElem?_append_right (by rw [HM.out]; omega), HM.out, show m + j - m = j by omega, List.getElem?_append_left (by rw [lst_len]; exact hj)] at this
            have e2 : (lst t)[j]? = some t[j] := by
              have hj' : j < (lst t).length := by rw [lst_len]; exact hj
              rw [List.getElem?_eq_getElem hj']
              rfl
            rw [e2] at this
            exact Option.some.inj this
          have k1d : decide ((m : Int) + (j : Int) < (m : Int)) = false := decide_eq_false (by omega)
          have k2' : (m : Int) + (j : Int) < (m : Int) + (t.size : Int) := by omega
          have j0 : (0 : Int) ≤ (j : Int) := by omega
          have j1 : (j : Int) < (t.size : Int) := by omega
          have W0 : IntKind.i64.wrap ((m : Int) + (j : Int) - (m : Int)) = (j : Int) := by rw [IntWalk.i64_in _ (by omega)]; omega
          go_wp2_with fail
          refine S.out.mono ?_; rintro e w' ⟨rfl, rfl⟩
          go_wp2_with fail
          go_ret2
          exact ⟨_, rfl, .inl ⟨rfl, rfl⟩, hB.out⟩
        · obtain ⟨j, rfl⟩ : ∃ j, k = m + t.size + j := ⟨k - (m + t.size), by omega⟩
          have NX := Lib.hid (show j < c.txt.length ∧ c.txt[j]? = some y by
            have h1 := HX.out.1
            have := HX.out.2
            rw [List.getElem?_append_right (by rw [HM.out]; omega), HM.out, List.getElem?_append_right (by rw [lst_len]; omega), lst_len, show m + t.size + j - m - t.size = j by omega] at this
            exact ⟨by omega, this⟩)
          have k1d : decide ((m : Int) + (t.size : Int) + (j : Int) < (m : Int)) = false := decide_eq_false (by omega)
          have k2d : decide ((m : Int) + (t.size : Int) + (j : Int) < (m : Int) + (t.size : Int)) = false := decide_eq_false (by omega)
          have W0 : IntKind.i64.wrap ((m : Int) + (t.size : Int) + (j : Int) - ((m : Int) + (t.size : Int))) = (j : Int) := by rw [IntWalk.i64_in _ (by omega)]; omega
          go_wp2_with fail
          refine S.out.mono ?_; rintro e w' ⟨rfl, rfl⟩
          go_wp2_with fail
          go_roundg c.nodes
          case measure => omega
          case rel => exact ⟨c, j, vr, Nat.le_refl _, rfl, rfl, by omega, NX, HR, FC, hB⟩
set_option maxRecDepth 100000 in
theorem at_no (w : World) (p : Option Addr) (x : List UInt8) (i : Int) (h : Has w (.pointer p) x) (hi : i < 0 ∨ ((x.length : Nat) : Int) ≤ i) : Calls Tryd.prog 10 #[.agg #[.pointer p], .int .i64 i] w (AtP 0 2 w) := by
  have L := Lib.hid (fun W (hW : Below w.heap.size w W) => len_any W p x (h.below hW))
  clear h
  by_cases h1 : i < 0
  · have h1d : decide (i < 0) = true := decide_eq_true h1
    clear hi
    go_enter Tryd.func10, Tryd.ntmps10
    go_wp2_with fail
    go_ret2
    exact ⟨_, rfl, .inr ⟨rfl, by decide⟩, (Below.refl _ _).alloc (Nat.le_refl _) _⟩
  · have h1d : decide (i < 0) = false := decide_eq_false h1
    have h2 : ((x.length : Nat) : Int) ≤ i := by omega
    have h2d : decide (((x.length : Nat) : Int) ≤ i) = true := decide_eq_true h2
    clear hi
    generalize x.length = n at *
    go_enter Tryd.func10, Tryd.ntmps10
    go_wp2_with fail
    refine (L.out _ ((Below.refl _ _).alloc (Nat.le_refl _) _)).mono ?_; rintro e w1 ⟨rfl, hb1⟩
    have B1 := Lib.hid (((Below.refl w.heap.size w).alloc (Nat.le_refl _) (.cells #[.pointer p] 26)).trans (hb1.mono (by simp)))
    clear hb1
    go_wp2_with fail
    go_ret2
    exact ⟨_, rfl, .inr ⟨rfl, by decide⟩, B1.out⟩
end Go.Proofs.YtfckhkpheahgaaaDoor.Pc
