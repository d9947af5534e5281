/-
  PROVED HERE: the program's spans.Size. Conditions: as each theorem states.
-/
import Derived.Test.YthpenogkejoljaaSpE
import Derived.Test.YthpenogkejoljaaSpL
namespace Go.Proofs.Ythpenogkejoljaa.Sp
open Go.RowKit
def sz : Int → List Spn → Int
  | n, [] => n
  | n, x :: r => sz (IntKind.i64.wrap (n + (x.2 - x.1))) r
theorem sz_at (n : Int) (l : List Spn) (k : Nat) (hk : k < l.length) : sz n (l.drop k) = sz (IntKind.i64.wrap (n + (l[k].2 - l[k].1))) (l.drop (k + 1)) := by
  rw [List.drop_eq_getElem_cons hk]
  rfl
set_option maxRecDepth 100000 in
set_option maxHeartbeats 2000000 in
theorem size_any (w : World) (v : Value) (l r : List Spn) (h : Sps w v l) (hb : ∀ x ∈ l, I64 x.1 ∧ I64 x.2) (hn : l.length ≤ 10000) (hr : Same l r) : Calls Try.prog 23 #[v] w fun e w' => e = .returned (.int .i64 (sz 0 r)) ∧ Below w.heap.size w w' := by
  have C1 := Lib.hid (of_any w v l h hb hn)
  have HR := Lib.hid hr
  obtain ⟨a, cap, rfl, -⟩ := h
  clear hb hr
  go_enter Try.func23, Try.ntmps23
  go_wp2_with fail
  refine C1.out.mono ?_; rintro e w1 ⟨v1, r', rfl, h1, h2, h3, _, h5⟩
  obtain rfl : r = r' := HR.out.one h2
  have U := Lib.hid h1
  have HB1 := Lib.hid h5
  obtain ⟨b, cp, rfl, -⟩ := h1
  clear C1 h2 h5
  go_wp2_with fail
  go_loopw [3, 9] (fun u i wr => ∃ (k : Nat) (n : Int), k ≤ r.length ∧ i = .int .i64 (k : Int) ∧ u = .int .i64 n ∧ Hid (sz n (r.drop k) = sz 0 r) ∧ Hid (Below w1.heap.size w1 wr)) (fun _ i _ => r.length - (intOf i).toNat)
  case atStart => exact ⟨0, 0, Nat.zero_le _, rfl, rfl, Lib.hid rfl, Lib.hid (Below.refl _ _)⟩
  case round =>
    obtain ⟨k, n, hk, rfl, rfl, hF, hB⟩ := hrel
    by_cases hlt : k < r.length
    · obtain ⟨ad, rfl, x0, x1⟩ := U.out.at_ k hlt
      have i1 : (0 : Int) ≤ (k : Int) := by omega
      have i2 : (k : Int) < (r.length : Int) := by omega
      have y0 := keepCell hB.out x0
      have y1 := keepCell hB.out x1
      have hT := sz_at n r k hlt
      rw [hF.out] at hT
      clear x0 x1 hF
      generalize r[k] = x at *
      obtain ⟨xf, xt⟩ := x
      simp only at y0 y1 hT
      have hT2 := Lib.hid hT.symm
      have hT3 : Hid (sz (wrap64 (n + wrap64 (xt - xf))) (r.drop (k + 1)) = sz 0 r) := Lib.hid (by
        have e : wrap64 (n + wrap64 (xt - xf)) = IntKind.i64.wrap (n + (xt - xf)) := by rw [IntKind.wrap_i64]; unfold wrap64; omega
        rw [e]; exact hT2.out)
      have hB2 := Lib.hid (hB.out.alloc hB.out.size (.cells #[.int .i64 xf, .int .i64 xt] 26))
      clear hT
      go_wp2_with fail
      go_roundw
      case rel => exact ⟨k + 1, _, by omega, by go_num, rfl, hT3, hB2⟩
      case measure => simp [intOf]; omega
    · have hk2 : k = r.length := by omega
      have hr : Hid (n = sz 0 r) := Lib.hid (by have := hF.out; rw [hk2, List.drop_length] at this; exact this)
      have hB2 := Lib.hid (HB1.out.trans (hB.out.mono HB1.out.size))
      have kd : decide ((k : Int) < (r.length : Int)) = false := decide_eq_false (by omega)
      clear hF
      go_wp2_with fail
      go_ret
      exact ⟨by rw [← hr.out]; rfl, hB2.out⟩
end Go.Proofs.Ythpenogkejoljaa.Sp
