/-
  PROVED HERE: the contract of the document's TextEncode. Conditions: as each theorem states.
-/
import Derived.Test.YtifnochpmlllgaaDoorEncB
namespace Go.Proofs.YtifnochpmlllgaaDoor.Enc
open Go.RowKit Go.Proofs.YtifnochpmlllgaaDoor.Chr

theorem snoc_list (l m : List UInt8) : (⟨l.toArray⟩ : ByteArray) ++ ⟨m.toArray⟩ = ⟨(l ++ m).toArray⟩ := by
  apply ByteArray.ext
  simp [ByteArray.data_append]
theorem size_list (l : List UInt8) : (⟨l.toArray⟩ : ByteArray).size = l.length := by
  show l.toArray.size = l.length
  simp

set_option maxRecDepth 100000 in
set_option maxHeartbeats 800000 in
theorem docEncode_any (v : Value) (l : List Int) (W : World) (hi : Ints W v l) (hl : l.length ≤ 1000) (hw : ∀ x ∈ l, -9223372036854775808 ≤ x ∧ x ≤ 9223372036854775807) :
    Calls Tryd.prog 33 #[v] W fun e w' => e = .returned (.tuple #[.string (er sb l 0 []).str, .agg #[.int .i64 (er sb l 0 []).err, .int .i64 (er sb l 0 []).at_]]) ∧ Below W.heap.size W w' := by
  obtain ⟨a, cap, rfl, hc⟩ := hi
  have hcH := Lib.hid hc
  have hwH := Lib.hid hw
  clear hc hw
  generalize hZ0 : er sb l 0 [] = Z at *
  have hZ : Hid (er sb (l.drop 0) 0 [] = Z) := Lib.hid hZ0
  clear hZ0
  go_enter Tryd.func33, Tryd.ntmps33
  go_wp2_with fail
  go_loopw [4, 9] (fun b i wr => ∃ (k : Nat) (out : List UInt8), k ≤ l.length ∧ i = .int .i64 k ∧ Hid (er sb (l.drop k) k out = Z) ∧ out.length ≤ 4 * k ∧ b = .string ⟨out.toArray⟩ ∧ Hid (Fr W wr)) (fun _ i _ => l.length - (intOf i).toNat)
  case atStart => exact ⟨0, [], Nat.zero_le _, rfl, hZ, Nat.le_refl _, rfl, Lib.hid (fr_new _ _ _ _)⟩
  case round =>
    obtain ⟨k, out, hk, rfl, hu, hol, rfl, hF⟩ := hrel
    clear hZ
    by_cases hlt : k < l.length
    · obtain ⟨ad, rfl, hcell0⟩ := hcH.out k hlt
      have hcell := (hF.out.1.cell (p := ad.add k) (World.block_lt_of_cell? W _ hcell0)).trans hcell0
      have hx := hwH.out l[k] (List.getElem_mem hlt)
      have i1 : (0 : Int) ≤ (k : Int) := by omega
      have i2 : (k : Int) < (l.length : Int) := by omega
      by_cases hs : sgn l[k]
      · have hn := sgn_nat _ hs
        have hu2 := Lib.hid ((er_go sb l k out hlt hs).symm.trans hu.out)
        obtain ⟨r, hr⟩ := Int.eq_ofNat_of_zero_le hn.1
        rw [hr] at hcell hs hu2 hn
        rw [Int.toNat_natCast] at hu2
        have hlen := sb_len r
        have hlenH := Lib.hid hlen
        have hSL := Lib.hid (snoc_list out (sb r))
        have hz := size_list out
        have hz2 : (⟨out.toArray⟩ : ByteArray).size ≤ 4000 := by omega
        have hz3 : (sbS r).size ≤ 4 := by show (⟨(sb r).toArray⟩ : ByteArray).size ≤ 4; rw [size_list]; exact hlen
        clear hlen hcell0 hr hx hz
        go_wp2_with fail
        refine (isSign_yes _ hs _).mono ?_; rintro e w' ⟨rfl, rfl⟩
        go_wp2_with fail
        refine (signBytes_any r (by omega) _).mono ?_; rintro e w1 ⟨rfl, hb1⟩
        have hF1 := Lib.hid (hF.out.below hb1)
        clear hb1
        go_wp2_with fail
        go_roundw
        case rel => exact ⟨k + 1, out ++ sb r, by omega, by go_num, hu2, by have := hlenH.out; simp; omega, by rw [← hSL.out]; rfl, hF1⟩
        case measure => simp [intOf]; omega
      · have hu2 := Lib.hid ((er_bad sb l k out hlt hs).symm.trans hu.out)
        have hsH := Lib.hid hs
        obtain ⟨hB, ⟨x0, c0⟩, ⟨x1, c1⟩, f0, f1⟩ := hF.out
        clear hs hcell0 hB
        generalize l[k] = r at *
        go_wp2_with fail
        refine (isSign_no _ hsH.out _).mono ?_; rintro e w' ⟨rfl, rfl⟩
        go_wp2_with fail
        refine bodyPost_ret (v := .tuple #[.string ⟨#[]⟩, .agg #[.int .i64 1, .int .i64 k]]) (by simp [results, Tryd.results33, go_sem, c0, c1]) rfl ?_
        rw [← hu2.out]
        exact ⟨rfl, hF.out.stored _ _⟩
    · have hu2 := Lib.hid ((er_end sb l k out (by omega)).symm.trans hu.out)
      go_wp2_with fail
      refine (good_any _).mono ?_; rintro e w1 ⟨rfl, hb1⟩
      have hF1 := Lib.hid (hF.out.below hb1)
      clear hb1
      obtain ⟨hB, ⟨x0, c0⟩, ⟨x1, c1⟩, f0, f1⟩ := hF1.out
      clear hB
      go_wp2_with fail
      refine bodyPost_ret (v := .tuple #[.string ⟨out.toArray⟩, .agg #[.int .i64 0, .int .i64 (-1)]]) (by simp [results, Tryd.results33, go_sem, c0, c1]) rfl ?_
      rw [← hu2.out]
      exact ⟨rfl, hF1.out.stored _ _⟩
end Go.Proofs.YtifnochpmlllgaaDoor.Enc
