/-
  PROVED HERE: the contract of the document's DiffEdits. Conditions: as each theorem states.
-/
import Derived.Test.YtjicnffafhbmbaaDoorMyN
import Derived.Test.YtjicnffafhbmbaaDoorMyH
import Derived.Deep.DeepCutAuto
import Derived.Deep.CutBlock
namespace Go.Proofs.YtjicnffafhbmbaaDoor.My
open Go.RowKit
def DeR (a b : ByteArray) (w2 : World) (lv iv jv : Value) (wr : World) : Prop := ∃ (i j : Nat) (acc : List Ed), i ≤ a.size ∧ j ≤ b.size ∧ iv = .int .i64 i ∧ jv = .int .i64 j ∧ Hid (OwnE wr w2.heap.size lv acc) ∧ Hid (acc.length ≤ i + j) ∧ Hid (acc ++ steps a b i j = steps a b 0 0) ∧ Hid (Below w2.heap.size w2 wr)
def DeP (a b : ByteArray) (W : World) (e : Ending) (w' : World) : Prop := ∃ v, e = .returned (.tuple #[v, .int .i64 0]) ∧ Eds w' v ((steps a b 0 0).foldl addE []) ∧ Below W.heap.size W w'
theorem steps_ok {a b : ByteArray} (s : Nat) : ∀ i j, (a.size - i) + (b.size - j) ≤ s → ∀ e ∈ steps a b i j, (0 ≤ e.n ∧ e.n ≤ 1) ∧ e.text.size ≤ 1 := by
  induction s with
  | zero => intro i j h; rw [steps_end (by omega)]; intro e he; simp at he
  | succ s ih =>
    intro i j h
    by_cases hl : i < a.size ∨ j < b.size
    · by_cases h1 : sames a b i j
      · rw [steps_same h1]
        intro e he
        rcases List.mem_cons.1 he with rfl | he
        · exact ⟨⟨by decide, by decide⟩, by decide⟩
        · exact ih (i + 1) (j + 1) (by have := h1.1; omega) e he
      · by_cases h2 : outs a b i j
        · rw [steps_out h1 h2]
          intro e he
          rcases List.mem_cons.1 he with rfl | he
          · exact ⟨⟨by decide, by decide⟩, by decide⟩
          · exact ih (i + 1) j (by have := h2.1; omega) e he
        · by_cases hj : j < b.size
          · rw [steps_in h1 h2 hj]
            intro e he
            rcases List.mem_cons.1 he with rfl | he
            · exact ⟨⟨Int.le_refl 0, by show (0 : Int) ≤ 1; omega⟩, by show (b.extract j (j + 1)).size ≤ 1; rw [ByteArray.size_extract]; omega⟩
            · exact ih i (j + 1) (by omega) e he
          · intro e he
            rw [steps, dif_neg h1, dif_neg h2, dif_neg hj] at he
            simp at he
    · rw [steps_end hl]; intro e he; simp at he
theorem last_num' {w : World} {B g cap D : Nat} {d : List Ed} {q : Ed} (hD : d.length = D) (h : OwnE w B (.slice (some ⟨g, 0, none⟩) (D + 1) cap) (d ++ [q])) (m : Int) : OwnE (w.setCell ⟨g, D * 3 + 1, none⟩ (.int .i64 m)) B (.slice (some ⟨g, 0, none⟩) (D + 1) cap) (d ++ [⟨q.what, m, q.text⟩]) := by
  subst hD; exact last_num h m
theorem last_text' {w : World} {B g cap D : Nat} {d : List Ed} {q : Ed} (hD : d.length = D) (h : OwnE w B (.slice (some ⟨g, 0, none⟩) (D + 1) cap) (d ++ [q])) (s : ByteArray) : OwnE (w.setCell ⟨g, D * 3 + 2, none⟩ (.string s)) B (.slice (some ⟨g, 0, none⟩) (D + 1) cap) (d ++ [⟨q.what, q.n, s⟩]) := by
  subst hD; exact last_text h s
theorem last_cells' {w : World} {B g cap D : Nat} {d : List Ed} {q : Ed} (hD : d.length = D) (h : OwnE w B (.slice (some ⟨g, 0, none⟩) (D + 1) cap) (d ++ [q])) :
    (w.cell? ⟨g, D * 3, none⟩ = some (.int .i64 q.what) ∧ w.cell? ⟨g, D * 3 + 1, none⟩ = some (.int .i64 q.n) ∧ w.cell? ⟨g, D * 3 + 2, none⟩ = some (.string q.text)) ∧ (∀ j, w.frozen? ⟨g, j, none⟩ = false) := by
  subst hD; exact last_cells h
/-- The edits put together so far, out of the list L. -/
def DeR2 (L : List Ed) (wr : World) (ov iv : Value) (wx : World) : Prop := ∃ (k : Nat) (acc : List Ed), k ≤ L.length ∧ iv = .int .i64 k ∧ Hid (OwnE wx wr.heap.size ov acc) ∧ Hid (AccOk acc k) ∧ Hid ((L.drop k).foldl addE acc = L.foldl addE []) ∧ Hid (Below wr.heap.size wr wx)
theorem fold_next (L acc : List Ed) (k : Nat) (h : k < L.length) : (L.drop k).foldl addE acc = (L.drop (k + 1)).foldl addE (addE acc L[k]) := by
  rw [List.drop_eq_getElem_cons h]; rfl
set_option maxRecDepth 100000 in
set_option maxHeartbeats 4000000 in
theorem docedits_any (a b : ByteArray) (hs : a.size + b.size ≤ 300) (W : World) :
    Calls Tryd.prog 7 #[.string a, .string b] W (DeP a b W) := by
  have HL := Lib.hid (common_any a b hs W)
  go_enter Tryd.func7, Tryd.ntmps7
  go_wp2_with (go_at_call 16; (with_reducible refine (HL.out).mono ?_); rintro e w2 ⟨rfl, hT, hB⟩; have hTH := Lib.hid hT; have hBH := Lib.hid hB; clear hT hB)
  go_loopw [7, 8, 9] (fun lv iv jv wr => DeR a b w2 lv iv jv wr) (fun _ iv jv _ => a.size + b.size - (intOf iv).toNat - (intOf jv).toNat)
  case atStart => exact ⟨0, 0, [], Nat.zero_le _, Nat.zero_le _, rfl, rfl, Lib.hid (ownE_nil _ _), Lib.hid (Nat.zero_le _), Lib.hid rfl, Lib.hid (Below.refl _ _)⟩
  case round =>
    obtain ⟨i, j, acc, hi, hj, rfl, rfl, hO, hA, hF, hBw⟩ := hrel
    by_cases hl : i < a.size ∨ j < b.size
    · by_cases h1 : sames a b i j
      · obtain ⟨c1, c2, e⟩ := id h1
        have c1' : (i : Int) < (a.size : Int) := by omega
        have c2' : (j : Int) < (b.size : Int) := by omega
        have b1 := Lib.hid (byteAt_eq a i c1)
        have b2 := Lib.hid (byteAt_eq b j c2)
        have i0 : (0 : Int) ≤ (i : Int) := by omega
        have j0 : (0 : Int) ≤ (j : Int) := by omega
        have e1 : ((a[i].toNat : Int) == (b[j].toNat : Int)) = true := by rw [b1.out, b2.out, e, beq_iff_eq]
        have HFN := Lib.hid (show (acc ++ [⟨1, 1, ⟨#[]⟩⟩]) ++ steps a b (i + 1) (j + 1) = steps a b 0 0 by rw [← hF.out, steps_same h1, List.append_assoc]; rfl)
        have HAN : Hid ((acc ++ [Ed.mk 1 1 ⟨#[]⟩]).length ≤ i + 1 + (j + 1)) := Lib.hid (by have := hA.out; simp; omega)
        clear hl h1 e hF
        go_wp2_with fail
        go_quiet (fail)
        have hO2 : Hid (OwnE (wr.drewN nq) w2.heap.size _ acc) := hO
        have hB2 : Hid (Below w2.heap.size w2 (wr.drewN nq)) := Lib.hid (below_drewN hBw.out nq)
        generalize wr.drewN nq = wd at *
        go_wp2_with (at_builtin; go_loud (refine ownE_append1 rfl _ _ rfl w2.heap.size _ acc rfl (hO2.out.alloc _) _ 1 (Ed.mk 1 1 ⟨#[]⟩) rfl (heap_new0 _ _) (by have := hA.out; omega) (by have := hB2.out.size; first | exact this | (simp; omega)) ?_); intro v1 w3 ho1 hg1 hb1 hat1; have HO3 := Lib.hid ho1; have HB3 := Lib.hid ((hB2.out.alloc hB2.out.size _).trans hb1); clear ho1 hg1 hb1 hat1)
        go_roundw
        case rel => first | exact ⟨i + 1, j + 1, _, c1, c2, by go_num, by go_num, HO3, HAN, HFN, HB3⟩ | ((repeat apply Exists.intro); exact ⟨⟨i + 1, j + 1, _, c1, c2, by go_num, by go_num, HO3, HAN, HFN, HB3⟩, rfl⟩)
        case measure => simp [intOf]; omega
      · by_cases c1 : i < a.size
        · have c1' : (i : Int) < (a.size : Int) := by omega
          have i0 : (0 : Int) ≤ (i : Int) := by omega
          have j0 : (0 : Int) ≤ (j : Int) := by omega
          by_cases c2 : j < b.size
          · have c2' : (j : Int) < (b.size : Int) := by omega
            have b1 := Lib.hid (byteAt_eq a i c1)
            have b2 := Lib.hid (byteAt_eq b j c2)
            have e1 : ((a[i].toNat : Int) == (b[j].toNat : Int)) = false := by rw [b1.out, b2.out, beq_eq_false_iff_ne]; exact fun q => h1 ⟨c1, c2, by omega⟩
            have e2 : ((j : Int) == (b.size : Int)) = false := by rw [beq_eq_false_iff_ne]; omega
            have ho := outs_doc h1 hl hj
            by_cases g : T a b (i + 1) j = T a b i j
            · have HFN := Lib.hid (show (acc ++ [Ed.mk 2 1 ⟨#[]⟩]) ++ steps a b (i + 1) j = steps a b 0 0 by rw [← hF.out, steps_out h1 (ho.2 (.inr ⟨c1, g⟩)), List.append_assoc]; rfl)
              have HAN : Hid ((acc ++ [Ed.mk 2 1 ⟨#[]⟩]).length ≤ i + 1 + j) := Lib.hid (by have := hA.out; simp; omega)
              have g1 : ((T a b (i + 1) j : Int) == (T a b i j : Int)) = true := by rw [beq_iff_eq, g]
              clear hl h1 hF ho
              go_wp2_with fail
              go_quiet (fail)
              have hO1 : Hid (OwnE (wr.drewN nq) w2.heap.size _ acc) := hO
              have hB1 : Hid (Below w2.heap.size w2 (wr.drewN nq)) := Lib.hid (below_drewN hBw.out nq)
              generalize wr.drewN nq = wz at *
              have hT := hTH.out.below hB1.out
              have r0 := hT.out i (by omega) trivial
              have r1 := hT.out (i + 1) (by omega) trivial
              have d1 := (hT.row i (by omega) trivial j (by omega)).1
              have d2 := (hT.row (i + 1) (by omega) trivial j (by omega)).1
              obtain ⟨i2, hi2⟩ : ∃ i2 : Nat, i2 = i + 1 := ⟨_, rfl⟩
              obtain ⟨j2, hj2⟩ : ∃ j2 : Nat, j2 = j + 1 := ⟨_, rfl⟩
              have v1 : IntKind.i64.wrap ((i : Int) + 1) = (i2 : Int) := by rw [show (i : Int) + 1 = (i2 : Int) by omega, IntKind.wrap_i64]; omega
              have v2 : IntKind.i64.wrap ((j : Int) + 1) = (j2 : Int) := by rw [show (j : Int) + 1 = (j2 : Int) by omega, IntKind.wrap_i64]; omega
              have m1 : (i : Int) < (a.size : Int) + 1 := by omega
              have m2 : (i2 : Int) < (a.size : Int) + 1 := by omega
              have m3 : (0 : Int) ≤ (i2 : Int) := by omega
              have n1 : (j : Int) < (b.size : Int) + 1 := by omega
              have n2 : (j2 : Int) < (b.size : Int) + 1 := by omega
              have n3 : (0 : Int) ≤ (j2 : Int) := by omega
              have k1 : j ≤ j2 := by omega
              have k2 : (j2 : Int) ≤ (b.size : Int) := by omega
              have k3 : (j : Int) ≤ (j2 : Int) := by omega
              clear hT
              rw [← hi2] at r1 d2 g g1 HFN HAN
              have HI2 := Lib.hid hi2
              have HJ2 := Lib.hid hj2
              clear hi2 hj2
              go_wp2_with fail
              go_quiet (fail)
              have hO2 : Hid (OwnE (wz.drewN nq) w2.heap.size _ acc) := hO1
              have hB2 : Hid (Below w2.heap.size w2 (wz.drewN nq)) := Lib.hid (below_drewN hB1.out nq)
              generalize wz.drewN nq = wd at *
              go_wp2_with (at_builtin; go_loud (refine ownE_append1 rfl _ _ rfl w2.heap.size _ acc rfl (hO2.out.alloc _) _ 1 (Ed.mk 2 1 ⟨#[]⟩) rfl (heap_new0 _ _) (by have := hA.out; omega) (by have := hB2.out.size; first | exact this | (simp; omega)) ?_); intro v1 w3 ho1 hg1 hb1 hat1; have HO3 := Lib.hid ho1; have HB3 := Lib.hid ((hB2.out.alloc hB2.out.size _).trans hb1); clear ho1 hg1 hb1 hat1)
              go_roundw
              case rel => first | exact ⟨i2, j, _, by omega, by omega, by go_num, by go_num, HO3, HAN, HFN, HB3⟩ | ((repeat apply Exists.intro); exact ⟨⟨i2, j, _, by omega, by omega, by go_num, by go_num, HO3, HAN, HFN, HB3⟩, rfl⟩)
              case measure =>
                have := HI2.out
                have := HJ2.out
                simp [intOf]; omega
            · have HFN := Lib.hid (show (acc ++ [Ed.mk 3 0 (b.extract j (j + 1))]) ++ steps a b i (j + 1) = steps a b 0 0 by rw [← hF.out, steps_in h1 (fun q => (ho.1 q).elim (fun q => by omega) (fun q => g q.2)) c2, List.append_assoc]; rfl)
              have HAN : Hid ((acc ++ [Ed.mk 3 0 (b.extract j (j + 1))]).length ≤ i + (j + 1)) := Lib.hid (by have := hA.out; simp; omega)
              have g1 : ((T a b (i + 1) j : Int) == (T a b i j : Int)) = false := by rw [beq_eq_false_iff_ne]; omega
              have j1 : (j : Int) + 1 ≤ (b.size : Int) := by omega
              clear hl h1 hF ho
              go_wp2_with fail
              go_quiet (fail)
              have hO1 : Hid (OwnE (wr.drewN nq) w2.heap.size _ acc) := hO
              have hB1 : Hid (Below w2.heap.size w2 (wr.drewN nq)) := Lib.hid (below_drewN hBw.out nq)
              generalize wr.drewN nq = wz at *
              have hT := hTH.out.below hB1.out
              have r0 := hT.out i (by omega) trivial
              have r1 := hT.out (i + 1) (by omega) trivial
              have d1 := (hT.row i (by omega) trivial j (by omega)).1
              have d2 := (hT.row (i + 1) (by omega) trivial j (by omega)).1
              obtain ⟨i2, hi2⟩ : ∃ i2 : Nat, i2 = i + 1 := ⟨_, rfl⟩
              obtain ⟨j2, hj2⟩ : ∃ j2 : Nat, j2 = j + 1 := ⟨_, rfl⟩
              have v1 : IntKind.i64.wrap ((i : Int) + 1) = (i2 : Int) := by rw [show (i : Int) + 1 = (i2 : Int) by omega, IntKind.wrap_i64]; omega
              have v2 : IntKind.i64.wrap ((j : Int) + 1) = (j2 : Int) := by rw [show (j : Int) + 1 = (j2 : Int) by omega, IntKind.wrap_i64]; omega
              have m1 : (i : Int) < (a.size : Int) + 1 := by omega
              have m2 : (i2 : Int) < (a.size : Int) + 1 := by omega
              have m3 : (0 : Int) ≤ (i2 : Int) := by omega
              have n1 : (j : Int) < (b.size : Int) + 1 := by omega
              have n2 : (j2 : Int) < (b.size : Int) + 1 := by omega
              have n3 : (0 : Int) ≤ (j2 : Int) := by omega
              have k1 : j ≤ j2 := by omega
              have k2 : (j2 : Int) ≤ (b.size : Int) := by omega
              have k3 : (j : Int) ≤ (j2 : Int) := by omega
              clear hT
              rw [← hi2] at r1 d2 g g1
              have HI2 := Lib.hid hi2
              have HJ2 := Lib.hid hj2
              rw [← hj2] at HFN HAN
              clear hi2 hj2
              go_wp2_with fail
              go_quiet (fail)
              have hO2 : Hid (OwnE (wz.drewN nq) w2.heap.size _ acc) := hO1
              have hB2 : Hid (Below w2.heap.size w2 (wz.drewN nq)) := Lib.hid (below_drewN hB1.out nq)
              generalize wz.drewN nq = wd at *
              go_wp2_with (at_builtin; go_loud (refine ownE_append1 rfl _ _ rfl w2.heap.size _ acc rfl (hO2.out.alloc _) _ 1 (Ed.mk 3 0 (b.extract j j2)) rfl (heap_new0 _ _) (by have := hA.out; omega) (by have := hB2.out.size; first | exact this | (simp; omega)) ?_); intro v1 w3 ho1 hg1 hb1 hat1; have HO3 := Lib.hid ho1; have HB3 := Lib.hid ((hB2.out.alloc hB2.out.size _).trans hb1); clear ho1 hg1 hb1 hat1)
              go_roundw
              case rel => first | exact ⟨i, j2, _, by omega, by omega, by go_num, by go_num, HO3, HAN, HFN, HB3⟩ | ((repeat apply Exists.intro); exact ⟨⟨i, j2, _, by omega, by omega, by go_num, by go_num, HO3, HAN, HFN, HB3⟩, rfl⟩)
              case measure =>
                have := HI2.out
                have := HJ2.out
                simp [intOf]; omega
          · have c2' : ((j : Int) == (b.size : Int)) = true := by rw [beq_iff_eq]; omega
            have c3 : (b.size : Int) ≤ (j : Int) := by omega
            have HFN := Lib.hid (show (acc ++ [Ed.mk 2 1 ⟨#[]⟩]) ++ steps a b (i + 1) j = steps a b 0 0 by rw [← hF.out, steps_out h1 ⟨c1, .inl (by omega)⟩, List.append_assoc]; rfl)
            have HAN : Hid ((acc ++ [Ed.mk 2 1 ⟨#[]⟩]).length ≤ i + 1 + j) := Lib.hid (by have := hA.out; simp; omega)
            clear hl h1 hF
            go_wp2_with fail
            have q1 : decide (j < b.size) = false := decide_eq_false c2
            go_quiet (fail)
            have hO1 : Hid (OwnE (wr.drewN nq) w2.heap.size _ acc) := hO
            have hB1 : Hid (Below w2.heap.size w2 (wr.drewN nq)) := Lib.hid (below_drewN hBw.out nq)
            generalize wr.drewN nq = wz at *
            go_wp2_with fail
            go_quiet (fail)
            have hO2 : Hid (OwnE (wz.drewN nq) w2.heap.size _ acc) := hO1
            have hB2 : Hid (Below w2.heap.size w2 (wz.drewN nq)) := Lib.hid (below_drewN hB1.out nq)
            generalize wz.drewN nq = wd at *
            go_wp2_with (at_builtin; go_loud (refine ownE_append1 rfl _ _ rfl w2.heap.size _ acc rfl (hO2.out.alloc _) _ 1 (Ed.mk 2 1 ⟨#[]⟩) rfl (heap_new0 _ _) (by have := hA.out; omega) (by have := hB2.out.size; first | exact this | (simp; omega)) ?_); intro v1 w3 ho1 hg1 hb1 hat1; have HO3 := Lib.hid ho1; have HB3 := Lib.hid ((hB2.out.alloc hB2.out.size _).trans hb1); clear ho1 hg1 hb1 hat1)
            go_roundw
            case rel => first | exact ⟨i + 1, j, _, by omega, by omega, by go_num, by go_num, HO3, HAN, HFN, HB3⟩ | ((repeat apply Exists.intro); exact ⟨⟨i + 1, j, _, by omega, by omega, by go_num, by go_num, HO3, HAN, HFN, HB3⟩, rfl⟩)
            case measure => simp [intOf]; omega
        · have c2 : j < b.size := by omega
          have c1' : ¬ ((i : Int) < (a.size : Int)) := by omega
          have c2' : (j : Int) < (b.size : Int) := by omega
          have c3 : (a.size : Int) ≤ (i : Int) := by omega
          have e2 : ((j : Int) == (b.size : Int)) = false := by rw [beq_eq_false_iff_ne]; omega
          have j0 : (0 : Int) ≤ (j : Int) := by omega
          have j1 : (j : Int) + 1 ≤ (b.size : Int) := by omega
          have HFN := Lib.hid (show (acc ++ [Ed.mk 3 0 (b.extract j (j + 1))]) ++ steps a b i (j + 1) = steps a b 0 0 by rw [← hF.out, steps_in h1 (fun q => c1 q.1) c2, List.append_assoc]; rfl)
          have HAN : Hid ((acc ++ [Ed.mk 3 0 (b.extract j (j + 1))]).length ≤ i + (j + 1)) := Lib.hid (by have := hA.out; simp; omega)
          clear hl h1 hF
          go_wp2_with fail
          have q1 : decide (i < a.size) = false := decide_eq_false c1
          go_quiet (fail)
          have hO1 : Hid (OwnE (wr.drewN nq) w2.heap.size _ acc) := hO
          have hB1 : Hid (Below w2.heap.size w2 (wr.drewN nq)) := Lib.hid (below_drewN hBw.out nq)
          generalize wr.drewN nq = wz at *
          go_wp2_with fail
          go_quiet (fail)
          have hO2 : Hid (OwnE (wz.drewN nq) w2.heap.size _ acc) := hO1
          have hB2 : Hid (Below w2.heap.size w2 (wz.drewN nq)) := Lib.hid (below_drewN hB1.out nq)
          generalize wz.drewN nq = wd at *
          go_wp2_with (at_builtin; go_loud (refine ownE_append1 rfl _ _ rfl w2.heap.size _ acc rfl (hO2.out.alloc _) _ 1 (Ed.mk 3 0 (b.extract j (j + 1))) rfl (heap_new0 _ _) (by have := hA.out; omega) (by have := hB2.out.size; first | exact this | (simp; omega)) ?_); intro v1 w3 ho1 hg1 hb1 hat1; have HO3 := Lib.hid ho1; have HB3 := Lib.hid ((hB2.out.alloc hB2.out.size _).trans hb1); clear ho1 hg1 hb1 hat1)
          go_roundw
          case rel => first | exact ⟨i, j + 1, _, by omega, by omega, by go_num, by go_num, HO3, HAN, HFN, HB3⟩ | ((repeat apply Exists.intro); exact ⟨⟨i, j + 1, _, by omega, by omega, by go_num, by go_num, HO3, HAN, HFN, HB3⟩, rfl⟩)
          case measure => simp [intOf]; omega
    · have hE : acc = steps a b 0 0 := by rw [← hF.out, steps_end hl, List.append_nil]
      have hLn : acc.length ≤ 300 := by have := hA.out; omega
      have hok := Lib.hid (show ∀ e ∈ acc, (0 ≤ e.n ∧ e.n ≤ 1) ∧ e.text.size ≤ 1 from by rw [hE]; exact steps_ok _ 0 0 (Nat.le_refl _))
      have q1 : decide (i < a.size) = false := decide_eq_false (by omega)
      have q2 : decide (j < b.size) = false := decide_eq_false (by omega)
      have q3 : ¬ ((i : Int) < (a.size : Int)) := by omega
      have q4 : ¬ ((j : Int) < (b.size : Int)) := by omega
      have HB := Lib.hid (hBH.out.trans (hBw.out.mono hBH.out.size))
      have hEQ := Lib.hid hE
      have hEd := Lib.hid hO.out.eds
      obtain ⟨al, cl, rfl⟩ := hO.out.len
      clear hl hE hF hA hO hTH hBw hBH
      go_wp2_with fail
      clear q1 q2 q3 q4
      obtain ⟨w3, rfl⟩ : ∃ w3, w3 = wr := ⟨_, rfl⟩
      go_loopw [10, 109] (fun ov iv wx => DeR2 acc w3 ov iv wx) (fun _ iv _ => acc.length - (intOf iv).toNat)
      case atStart => exact ⟨0, [], Nat.zero_le _, rfl, Lib.hid (ownE_nil _ _), Lib.hid acc_nil, Lib.hid rfl, Lib.hid (Below.refl _ _)⟩
      case round =>
        obtain ⟨k, out, hk, rfl, hO, hA, hF, hBw⟩ := hrel
        by_cases hlt : k < acc.length
        · obtain ⟨ad, rfl, d0, d1, d2⟩ := hEd.out.at_ k hlt
          have d0 := keepCell hBw.out d0
          have d1 := keepCell hBw.out d1
          have d2 := keepCell hBw.out d2
          have hF2 := Lib.hid ((fold_next acc out k hlt).symm.trans hF.out)
          have he := hok.out acc[k] (List.getElem_mem hlt)
          generalize acc[k] = e at *
          obtain ⟨wh, n, tx⟩ := e
          simp only at d0 d1 d2 he
          obtain ⟨⟨he0, he1⟩, he2⟩ := he
          have HAN := Lib.hid (acc_add (e := ⟨wh, n, tx⟩) hA.out ⟨he0, he1⟩ he2)
          have i1 : (0 : Int) ≤ (k : Int) := by omega
          have i2 : (k : Int) < (acc.length : Int) := by omega
          have hol : out.length ≤ k := hA.out.1
          have hqq := hA.out.2
          clear hF hA hEd hok
          rcases List.eq_nil_or_concat out with e0 | ⟨d, q, e0⟩
          · subst e0
            obtain ⟨a1, c1, rfl⟩ := hO.out.len
            go_wp2_with fail
            obtain ⟨w4, hw4⟩ : ∃ w4, w4 = wr.alloc (.cells #[.int .i64 wh, .int .i64 n, .string tx] 58) := ⟨_, rfl⟩
            rw [← hw4]
            have HO4 := Lib.hid (show OwnE w4 w3.heap.size _ _ from by rw [hw4]; exact hO.out.alloc _)
            have HB4 : Hid (Below w3.heap.size w3 w4) := Lib.hid (by rw [hw4]; exact hBw.out.alloc hBw.out.size _)
            have x0 : w4.cell? ⟨wr.heap.size, 0, none⟩ = some (.int .i64 wh) := by rw [hw4]; simp [go_sem]
            have x1 : w4.cell? ⟨wr.heap.size, 1, none⟩ = some (.int .i64 n) := by rw [hw4]; simp [go_sem]
            have x2 : w4.cell? ⟨wr.heap.size, 2, none⟩ = some (.string tx) := by rw [hw4]; simp [go_sem]
            clear hw4 hO hBw d0 d1 d2
            generalize wr.heap.size = G at *
            go_quiet (fail)
            have x0 : (w4.drewN nq).cell? ⟨G, 0, none⟩ = some (.int .i64 wh) := x0
            have x1 : (w4.drewN nq).cell? ⟨G, 1, none⟩ = some (.int .i64 n) := x1
            have x2 : (w4.drewN nq).cell? ⟨G, 2, none⟩ = some (.string tx) := x2
            have HO5 : Hid (OwnE (w4.drewN nq) w3.heap.size _ []) := HO4
            have HB5 : Hid (Below w3.heap.size w3 (w4.drewN nq)) := Lib.hid (below_drewN HB4.out nq)
            clear HO4 HB4
            generalize w4.drewN nq = w5 at *
            go_wp2_with (at_builtin; go_loud (refine ownE_append1 rfl _ _ rfl w3.heap.size _ [] rfl (HO5.out.alloc _) _ 1 (Ed.mk wh n tx) rfl (heap_new0 _ _) (by simp) (by have := HB5.out.size; first | exact this | (simp; omega)) ?_); intro v1 w6 ho1 hg1 hb1 hat1; have HO6 := Lib.hid ho1; have HB6 := Lib.hid ((HB5.out.alloc HB5.out.size _).trans hb1); clear ho1 hg1 hb1 hat1)
            go_roundw
            case rel => first | exact ⟨k + 1, _, by omega, by go_num, HO6, HAN, hF2, HB6⟩ | ((repeat apply Exists.intro); exact ⟨⟨k + 1, _, by omega, by go_num, HO6, HAN, hF2, HB6⟩, rfl⟩)
            case measure => simp [intOf]; omega
          · rw [List.concat_eq_append] at e0
            subst e0
            rcases hO.out.2 with ⟨_, h0⟩ | ⟨g, cap, cur, hv, hbg, hbg2, _⟩
            · simp at h0
            rw [show (d ++ [q]).length = d.length + 1 by simp] at hv hol
            subst hv
            have hdl : ¬ ((d.length : Int) + 1 - 1 < 0) := by omega
            have k1 : (0 : Int) ≤ (d.length : Int) := by omega
            have k2 : ((d.length + 1 : Nat) : Int) - 1 = (d.length : Int) := by omega
            go_wp2_with fail
            obtain ⟨w4, hw4⟩ : ∃ w4, w4 = wr.alloc (.cells #[.int .i64 wh, .int .i64 n, .string tx] 58) := ⟨_, rfl⟩
            rw [← hw4]
            have HO4 := Lib.hid (show OwnE w4 w3.heap.size _ _ from by rw [hw4]; exact hO.out.alloc _)
            have HB4 : Hid (Below w3.heap.size w3 w4) := Lib.hid (by rw [hw4]; exact hBw.out.alloc hBw.out.size _)
            have x0 : w4.cell? ⟨wr.heap.size, 0, none⟩ = some (.int .i64 wh) := by rw [hw4]; simp [go_sem]
            have x1 : w4.cell? ⟨wr.heap.size, 1, none⟩ = some (.int .i64 n) := by rw [hw4]; simp [go_sem]
            have x2 : w4.cell? ⟨wr.heap.size, 2, none⟩ = some (.string tx) := by rw [hw4]; simp [go_sem]
            have hgG : g ≠ wr.heap.size := Nat.ne_of_lt (World.ownsRow.lt hO.out g rfl).2
            have hqb := hqq q (by simp)
            obtain ⟨⟨hq0, hq1⟩, hq2⟩ := hqb
            clear hw4 hO hBw d0 d1 d2 hbg2 hqq hlt
            generalize wr.heap.size = G at *
            have hc := last_cells HO4.out
            obtain ⟨⟨c0, c1, c2⟩, hf⟩ := hc
            by_cases hx : q.what = wh
            · subst hx
              have HF3 := hF2
              have HA3 := HAN
              rw [addE_join (d := d) (q := q) (e := ⟨q.what, n, tx⟩) rfl] at HF3 HA3
              clear hF2 HAN
              go_quiet (fail)
              have x1 : (w4.drewN nq).cell? ⟨G, 1, none⟩ = some (.int .i64 n) := x1
              have x2 : (w4.drewN nq).cell? ⟨G, 2, none⟩ = some (.string tx) := x2
              have HO5 : Hid (OwnE (w4.drewN nq) w3.heap.size _ _) := HO4
              have HB5 : Hid (Below w3.heap.size w3 (w4.drewN nq)) := Lib.hid (below_drewN HB4.out nq)
              have c1 : (w4.drewN nq).cell? ⟨g, d.length * 3 + 1, none⟩ = some (.int .i64 q.n) := c1
              have f1 : (w4.drewN nq).frozen? ⟨g, d.length * 3 + 1, none⟩ = false := hf _
              clear HO4 HB4 c0 c2 hf x0
              generalize w4.drewN nq = w5 at *
              have k3 : (d.length : Int) < (d.length : Int) + 1 := by omega
              generalize hdl' : d.length = D at *
              have hDL := Lib.hid hdl'
              clear hdl' hdl k2
              have f1' : w5.drew.frozen? ⟨g, D * 3 + 1, none⟩ = false := f1
              go_wp2_with fail
              go_still_tail 10, (by kernel_rfl)
              go_wp2_with fail
              have HO6 : Hid (OwnE ((w5.setCell ⟨g, D * 3 + 1, none⟩ (.int .i64 (q.n + n))).drew) w3.heap.size _ _) := Lib.hid (last_num' hDL.out HO5.out (q.n + n)).drew
              have HB6 : Hid (Below w3.heap.size w3 ((w5.setCell ⟨g, D * 3 + 1, none⟩ (.int .i64 (q.n + n))).drew)) := Lib.hid (HB5.out.setCell (p := ⟨g, D * 3 + 1, none⟩) hbg _).drew
              have y2 : ((w5.setCell ⟨g, D * 3 + 1, none⟩ (.int .i64 (q.n + n))).drew).cell? ⟨G, 2, none⟩ = some (.string tx) := by
                exact (World.cell?_setCell_other _ _ _ _ (by intro e; injection e with e; exact hgG e)).trans x2
              clear HO5 HB5 x1 x2 c1 f1 f1'
              generalize (w5.setCell ⟨g, D * 3 + 1, none⟩ (.int .i64 (q.n + n))).drew = w6 at *
              have hc := last_cells' hDL.out HO6.out
              obtain ⟨⟨-, -, c2⟩, hf⟩ := hc
              have f2 := hf (D * 3 + 2)
              have f2' : w6.drew.frozen? ⟨g, D * 3 + 2, none⟩ = false := f2
              simp only at c2
              have q5 : ¬ (9223372036854775807 < q.text.size + tx.size) := by omega
              clear hf
              go_still_tail 10, (by kernel_rfl)
              go_wp2_with fail
              have HO7 : Hid (OwnE ((w6.setCell ⟨g, D * 3 + 2, none⟩ (.string (q.text ++ tx))).drew) w3.heap.size _ _) := Lib.hid (last_text' hDL.out HO6.out (q.text ++ tx)).drew
              have HB7 : Hid (Below w3.heap.size w3 ((w6.setCell ⟨g, D * 3 + 2, none⟩ (.string (q.text ++ tx))).drew)) := Lib.hid (HB6.out.setCell (p := ⟨g, D * 3 + 2, none⟩) hbg _).drew
              clear HO6 HB6 y2 c2 f2 f2'
              generalize (w6.setCell ⟨g, D * 3 + 2, none⟩ (.string (q.text ++ tx))).drew = w7 at *
              go_roundw
              case rel => first | exact ⟨k + 1, _, by omega, by go_num, HO7, HA3, HF3, HB7⟩ | ((repeat apply Exists.intro); exact ⟨⟨k + 1, _, by omega, by go_num, HO7, HA3, HF3, HB7⟩, rfl⟩)
              case measure => simp [intOf]; omega
            · have e1 : (q.what == wh) = false := by rw [beq_eq_false_iff_ne]; exact hx
              have HF3 := hF2
              have HA3 := HAN
              rw [addE_new (e := ⟨wh, n, tx⟩) hx] at HF3 HA3
              have hln : (d ++ [q]).length + 1 ≤ 1000000 := by simp; omega
              clear hF2 HAN
              go_quiet (fail)
              have x0 : (w4.drewN nq).cell? ⟨G, 0, none⟩ = some (.int .i64 wh) := x0
              have x1 : (w4.drewN nq).cell? ⟨G, 1, none⟩ = some (.int .i64 n) := x1
              have x2 : (w4.drewN nq).cell? ⟨G, 2, none⟩ = some (.string tx) := x2
              have HO5 : Hid (OwnE (w4.drewN nq) w3.heap.size _ _) := HO4
              have HB5 : Hid (Below w3.heap.size w3 (w4.drewN nq)) := Lib.hid (below_drewN HB4.out nq)
              clear HO4 HB4 c0 c1 c2 hf
              generalize w4.drewN nq = w5 at *
              go_wp2_with (at_builtin; go_loud (refine ownE_append1 rfl _ _ rfl w3.heap.size _ (d ++ [q]) rfl (HO5.out.alloc _) _ 1 (Ed.mk wh n tx) rfl (heap_new0 _ _) hln (by have := HB5.out.size; first | exact this | (simp; omega)) ?_); intro v1 w6 ho1 hg1 hb1 hat1; have HO6 := Lib.hid ho1; have HB6 := Lib.hid ((HB5.out.alloc HB5.out.size _).trans hb1); clear ho1 hg1 hb1 hat1)
              go_roundw
              case rel => first | exact ⟨k + 1, _, by omega, by go_num, HO6, HA3, HF3, HB6⟩ | ((repeat apply Exists.intro); exact ⟨⟨k + 1, _, by omega, by go_num, HO6, HA3, HF3, HB6⟩, rfl⟩)
              case measure => simp [intOf]; omega
        · obtain rfl : k = acc.length := by omega
          have hE := Lib.hid (show out = (steps a b 0 0).foldl addE [] by rw [← hEQ.out, ← hF.out, List.drop_length]; rfl)
          go_wp2_with fail
          go_ret2
          exact ⟨_, rfl, by rw [← hE.out]; exact hO.out.eds, HB.out.trans (hBw.out.mono HB.out.size)⟩
end Go.Proofs.YtjicnffafhbmbaaDoor.My
