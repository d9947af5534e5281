/-
  PROVED HERE: the contract of the document's TextNarrow. Conditions: as each theorem states.
-/
import Derived.Test.YtifnochpmlllgaaDoorNarA
import Derived.Test.YtifnochpmlllgaaDoorDocW
import Derived.Deep.RegionLaw
namespace Go.Proofs.YtifnochpmlllgaaDoor.Nar
open Go.RowKit Go.Proofs.YtifnochpmlllgaaDoor.Chr
attribute [local go_sem ↓] Go.wp_at_zero Go.wp_at_succ

/-- The document's halves. -/
def uat (s : ByteArray) (o j : Nat) : Nat := if 2 * j + 1 < s.size then hf s o (2 * j) else 55296
theorem uat_lt (s : ByteArray) (o j : Nat) : uat s o j < 65536 := by
  unfold uat
  split
  · exact hf_lt _ _ _
  · decide
def us (s : ByteArray) (o n : Nat) : List Int := (List.range n).map fun j => (uat s o j : Int)
theorem us_len (s : ByteArray) (o n : Nat) : (us s o n).length = n := by simp [us]
theorem us_at (s : ByteArray) (o n j : Nat) (h : j < (us s o n).length) : (us s o n)[j] = (uat s o j : Int) := by simp [us]
theorem us_succ (s : ByteArray) (o n : Nat) : us s o (n + 1) = us s o n ++ [(uat s o n : Int)] := by simp [us, List.range_succ]
theorem get_two (s : ByteArray) (o i : Nat) (ho : o ≤ 1) : DocW.leV (DocW.src s i 2 o) 2 = hf s o i := by
  rcases (show o = 0 ∨ o = 1 by omega) with rfl | rfl
  · simp [DocW.leV, DocW.src, DocW.plc, hf]
  · simp [DocW.leV, DocW.src, DocW.plc, hf]; omega
theorem fr_grow {W w w' : World} (hF : Fr W w) (b : Below (W.heap.size + 1) w w') : Fr W w' := by
  obtain ⟨hB, ⟨x0, h0⟩, ⟨x1, h1⟩, g0, g1⟩ := hF
  exact ⟨hB.trans (b.mono (by omega)), ⟨x0, (b.cell (by show W.heap.size < W.heap.size + 1; omega)).trans h0⟩, ⟨x1, (b.cell (by show W.heap.size < W.heap.size + 1; omega)).trans h1⟩, (b.frozen (by show W.heap.size < W.heap.size + 1; omega)).trans g0, (b.frozen (by show W.heap.size < W.heap.size + 1; omega)).trans g1⟩
theorem Fr.big {W w : World} (h : Fr W w) : W.heap.size + 1 ≤ w.heap.size := by
  obtain ⟨_, ⟨x0, h0⟩, _⟩ := h
  exact World.block_lt_of_cell? w _ h0

def DRel (s : ByteArray) (o : Nat) (W : World) (v i : Value) (wr : World) : Prop := ∃ k j : Nat, k ≤ s.size + 1 ∧ i = .int .i64 k ∧ Hid (k = 2 * j) ∧ (∃ a cap, v = .slice a j cap) ∧ Hid (Own wr (W.heap.size + 1) 3 v (i64s (us s o j))) ∧ Hid (Fr W wr)
def ERel (s : ByteArray) (o : Nat) (Z : List Int) (B : Nat) (w0 : World) (v i : Value) (wr : World) : Prop := ∃ (j f : Nat) (out : List Int), j ≤ s.size + 1 ∧ i = .int .i64 j ∧ Hid (s.size ≤ 2 * j + f) ∧ Hid (nd s o f j out = Z) ∧ Hid (out.length ≤ j) ∧ (∃ a cap, v = .slice a out.length cap) ∧ Hid (Own wr B 3 v (i64s out)) ∧ Hid (Below B w0 wr)
def DPost (l : List Int) (W : World) (e : Ending) (w' : World) : Prop := ∃ v, e = .returned (.tuple #[v, .agg #[.int .i64 0, .int .i64 (-1)]]) ∧ Ints w' v l ∧ Below W.heap.size W w'
set_option maxRecDepth 100000 in
set_option maxHeartbeats 4000000 in
theorem docNarrow_any (s : ByteArray) (o : Nat) (ho : o ≤ 1) (hs : s.size ≤ 1000) (W : World) :
    Calls Tryd.prog 28 #[.string s, .int .i64 o] W (DPost (nd s o s.size 0 []) W) := by
  generalize hZ0 : nd s o s.size 0 [] = Z
  have hZ := Lib.hid hZ0
  clear hZ0
  have CG := Lib.hid (fun i W h => DocW.docGet_yes s i 2 o ho ⟨by omega, by omega⟩ (by omega) (by omega) h hs W)
  have CR := Lib.hid (fun (i : Int) W h => DocW.docGet_range s i 2 o ⟨by omega, by omega⟩ (by omega) (by omega) h hs W)
  have GT := Lib.hid (fun i => get_two s o i ho)
  go_enter Tryd.func28, Tryd.ntmps28
  go_wp2_with fail
  refine (Ref.within_yes _ _ _ (by omega) (by omega) _).mono ?_; rintro e w' ⟨rfl, rfl⟩
  go_wp2_with fail
  go_loopw [6, 7] (fun v i wr => DRel s o W v i wr) (fun _ i _ => s.size + 2 - (intOf i).toNat)
  case atStart => exact ⟨0, 0, by omega, rfl, Lib.hid rfl, ⟨_, _, rfl⟩, Lib.hid (own_nil _ _ _), Lib.hid (fr_new _ _ _ _)⟩
  case round =>
    obtain ⟨k, j, hk, rfl, hkj, ⟨a, cap, rfl⟩, hO, hF⟩ := hrel
    have hj2 : j ≤ 501 := by have := hkj.out; omega
    by_cases hlt : k < s.size
    · have hu := Lib.hid (us_succ s o j)
      have hul := uat_lt s o j
      by_cases h2 : k + 2 ≤ s.size
      · have eu : Hid (DocW.leV (DocW.src s k 2 o) 2 = uat s o j) := Lib.hid (by rw [GT.out, uat, if_pos (by have := hkj.out; omega), hkj.out])
        generalize uat s o j = n at *
        go_wp2_with fail
        refine (CG.out k _ h2).mono ?_; rintro e w' ⟨rfl, rfl⟩
        rw [eu.out]
        go_wp2_with (at_builtin; refine own_append1 rfl _ _ 50 rfl (W.heap.size + 1) 3 (.int .i64 0) 8 Tryd.underlying50 (by kernel_rfl) rfl _ _ rfl (hO.out.alloc _) _ 1 _ rfl (new_cell _ _ _) rfl (by rw [i64s_len, us_len]; omega) (by rw [i64s_len, us_len]; omega) (le_alloc (Fr.big hF.out) _) ?_; intro v1 w1 ho1 hg1 hb1 hat1; have hb2 := below_append (Below.refl (W.heap.size + 1) _) _ (Fr.big hF.out) hb1; rw [i64s_snoc, ← hu.out] at ho1; have hF1 := Lib.hid (fr_grow hF.out hb2); have ho1H := Lib.hid ho1; clear hg1 hb1 hat1 hb2 ho1)
        go_roundw
        case rel => first | exact ⟨k + 2, j + 1, by omega, by go_num, Lib.hid (by have := hkj.out; omega), (by obtain ⟨a', c', e'⟩ := ho1H.out.len; rw [i64s_len, us_len] at e'; exact ⟨a', c', e'⟩), ho1H, hF1⟩ | ((repeat apply Exists.intro); exact ⟨⟨k + 2, j + 1, by omega, by go_num, Lib.hid (by have := hkj.out; omega), (by obtain ⟨a', c', e'⟩ := ho1H.out.len; rw [i64s_len, us_len] at e'; exact ⟨a', c', e'⟩), ho1H, hF1⟩, rfl⟩)
        case measure => simp [intOf]; omega
      · have eu : Hid ((uat s o j : Int) = 55296) := Lib.hid (by rw [uat, if_neg (by have := hkj.out; omega)]; rfl)
        rw [eu.out] at hu
        clear hul
        go_wp2_with fail
        refine (CR.out _ _ (by omega)).mono ?_; rintro e w' ⟨rfl, rfl⟩
        go_wp2_with (at_builtin; refine own_append1 rfl _ _ 50 rfl (W.heap.size + 1) 3 (.int .i64 0) 8 Tryd.underlying50 (by kernel_rfl) rfl _ _ rfl (hO.out.alloc _) _ 1 _ rfl (new_cell _ _ _) rfl (by rw [i64s_len, us_len]; omega) (by rw [i64s_len, us_len]; omega) (le_alloc (Fr.big hF.out) _) ?_; intro v1 w1 ho1 hg1 hb1 hat1; have hb2 := below_append (Below.refl (W.heap.size + 1) _) _ (Fr.big hF.out) hb1; rw [i64s_snoc, ← hu.out] at ho1; have hF1 := Lib.hid (fr_grow hF.out hb2); have ho1H := Lib.hid ho1; clear hg1 hb1 hat1 hb2 ho1)
        go_roundw
        case rel => first | exact ⟨k + 2, j + 1, by omega, by go_num, Lib.hid (by have := hkj.out; omega), (by obtain ⟨a', c', e'⟩ := ho1H.out.len; rw [i64s_len, us_len] at e'; exact ⟨a', c', e'⟩), ho1H, hF1⟩ | ((repeat apply Exists.intro); exact ⟨⟨k + 2, j + 1, by omega, by go_num, Lib.hid (by have := hkj.out; omega), (by obtain ⟨a', c', e'⟩ := ho1H.out.len; rw [i64s_len, us_len] at e'; exact ⟨a', c', e'⟩), ho1H, hF1⟩, rfl⟩)
        case measure => simp [intOf]; omega
    · have hN : Hid (j = (s.size + 1) / 2) := Lib.hid (by have := hkj.out; omega)
      have hI : Hid (∀ j', j' < j → ∃ g, a = some ⟨g, 0, none⟩ ∧ wr.cell? ⟨g, j', none⟩ = some (.int .i64 (uat s o j'))) := Lib.hid (fun j' h => by
        obtain ⟨g, e1, e2⟩ := hO.out.at_ j' (by rw [i64s_len, us_len]; exact h)
        refine ⟨g, e1, e2.trans ?_⟩
        rw [i64s_get, List.getD_eq_getElem?_getD, List.getElem?_eq_getElem (by rw [us_len]; exact h), us_at]; rfl)
      have hj3 : j ≤ 501 := hj2
      clear hkj
      by_cases hp : s.size % 2 = 1
      · skip
        have hpar : ((s.size : Int) % 2 == 1) = true := by rw [beq_iff_eq]; omega
        go_wp2_with fail
        obtain ⟨w0, hw0⟩ : ∃ w0, w0 = wr := ⟨_, rfl⟩
        rw [← hw0]
        rw [← hw0] at hF hI
        clear hw0 hO
        go_loopw [11, 12] (fun v i wq => ERel s o Z w0.heap.size w0 v i wq) (fun _ i _ => s.size + 2 - (intOf i).toNat)
        case atStart => exact ⟨0, s.size, [], by omega, rfl, Lib.hid (by omega), hZ, Lib.hid (Nat.le_refl _), ⟨_, _, rfl⟩, Lib.hid (own_nil _ _ _), Lib.hid (Below.refl _ _)⟩
        case round =>
          obtain ⟨j1, f, out, hj1, rfl, hfu, hu, hol, ⟨a1, cap1, rfl⟩, hO2, hB2⟩ := hrel
          clear hZ
          have hol2 : out.length ≤ 1001 := by have := hol.out; omega
          by_cases hlt2 : j1 < j
          · obtain ⟨f', rfl⟩ : ∃ f', f = f' + 1 := ⟨f - 1, by have := hfu.out; have := hN.out; omega⟩
            obtain ⟨g, rfl, hcell0⟩ := hI.out j1 hlt2
            have hcell := keepCell hB2.out hcell0
            have i1 : (0 : Int) ≤ (j1 : Int) := by omega
            have i2 : (j1 : Int) < (j : Int) := by omega
            have hnl := uat_lt s o j1
            clear hcell0
            by_cases hlast : s.size = 2 * j1 + 1
            · have hu2 := Lib.hid ((nd_odd s o f' j1 out hlast).symm.trans hu.out)
              have e1 : (uat s o j1 : Int) = 55296 := by rw [uat, if_neg (by omega)]; rfl
              rw [e1] at hcell
              have t1 : ((j1 : Int) == (j : Int) - 1) = true := by rw [beq_iff_eq]; have := hN.out; omega
              have hlastH := Lib.hid hlast
              clear hnl e1 hlast
              go_wp2_with fail
              refine (Ref.within_yes _ _ _ (by omega) (by omega) _).mono ?_; rintro e w' ⟨rfl, rfl⟩
              go_wp2_with (at_builtin; refine own_append1 rfl _ _ 50 rfl w0.heap.size 3 (.int .i64 0) 8 Tryd.underlying50 (by kernel_rfl) rfl _ _ rfl (hO2.out.alloc _) _ 1 _ rfl (new_cell _ _ _) rfl (by rw [i64s_len]; omega) (by rw [i64s_len]; omega) (le_alloc hB2.out.size _) ?_; intro v1 w1 ho1 hg1 hb1 hat1; have hb2 := below_append (Below.refl w0.heap.size _) _ hB2.out.size hb1; rw [i64s_snoc] at ho1; have hB1 := Lib.hid (hB2.out.trans hb2); have ho1H := Lib.hid ho1; clear hg1 hb1 hat1 hb2 ho1)
              go_roundw
              case rel => first | exact ⟨j1 + 1, f', _, by have := hlastH.out; omega, by go_num, Lib.hid (by have := hlastH.out; omega), Lib.hid ((nd_end s o f' (j1 + 1) _ (by have := hlastH.out; omega)).trans hu2.out), Lib.hid (by have := hol.out; simp; omega), (by obtain ⟨a', c', e'⟩ := ho1H.out.len; rw [i64s_len] at e'; exact ⟨a', c', e'⟩), ho1H, hB1⟩ | ((repeat apply Exists.intro); exact ⟨⟨j1 + 1, f', _, by have := hlastH.out; omega, by go_num, Lib.hid (by have := hlastH.out; omega), Lib.hid ((nd_end s o f' (j1 + 1) _ (by have := hlastH.out; omega)).trans hu2.out), Lib.hid (by have := hol.out; simp; omega), (by obtain ⟨a', c', e'⟩ := ho1H.out.len; rw [i64s_len] at e'; exact ⟨a', c', e'⟩), ho1H, hB1⟩, rfl⟩)
              case measure => simp [intOf]; omega
            · have t1 : ((j1 : Int) == (j : Int) - 1) = false := by rw [beq_eq_false_iff_ne]; have := hN.out; omega
              have hin : 2 * j1 + 1 < s.size := by have := hN.out; omega
              have eu : uat s o j1 = hf s o (2 * j1) := by rw [uat, if_pos hin]
              have E1 := Lib.hid (fun h => (nd_one s o f' j1 out hin h).symm.trans hu.out)
              have E2 := Lib.hid (fun h a b c d => (nd_two s o f' j1 out h a b c d).symm.trans hu.out)
              have E3 := Lib.hid (fun a b c => (nd_bad s o f' j1 out hin a b c).symm.trans hu.out)
              rw [← eu] at E1 E2 E3
              clear eu
              by_cases hnext : j1 + 1 < j
              · obtain ⟨g', had', hcell1⟩ := hI.out (j1 + 1) hnext
                obtain rfl : g = g' := by simpa using had'
                have hcellB := keepCell hB2.out hcell1
                have eu2 : 2 * j1 + 3 < s.size → uat s o (j1 + 1) = hf s o (2 * j1 + 2) := fun h => by rw [uat, if_pos (by omega)]; congr 1
                have eu3 : ¬ 2 * j1 + 3 < s.size → uat s o (j1 + 1) = 55296 := fun h => by rw [uat, if_neg (by omega)]
                have hml := uat_lt s o (j1 + 1)
                have EU2 := Lib.hid eu2
                have EU3 := Lib.hid eu3
                have n1 : (j1 : Int) + 1 < (j : Int) := by omega
                have n2 : (0 : Int) ≤ (j1 : Int) + 1 := by omega
                clear hcell1 eu2 eu3 had'
                generalize uat s o j1 = n at *
                generalize uat s o (j1 + 1) = m at *
                rcases (show (n < 55296 ∨ 57343 < n) ∨ (55296 ≤ n ∧ n ≤ 56319) ∨ (56320 ≤ n ∧ n ≤ 57343) by omega) with hc | ⟨c1, c2⟩ | ⟨c1, c2⟩
                · have hu2 := Lib.hid (E1.out hc)
                  go_wp2_with fail
                  refine (Ref.within_no _ _ _ (by omega) _).mono ?_; rintro e w' ⟨rfl, rfl⟩
                  go_wp2_with fail
                  refine (Ref.within_no _ _ _ (by omega) _).mono ?_; rintro e w' ⟨rfl, rfl⟩
                  go_wp2_with (at_builtin; refine own_append1 rfl _ _ 50 rfl w0.heap.size 3 (.int .i64 0) 8 Tryd.underlying50 (by kernel_rfl) rfl _ _ rfl (hO2.out.alloc _) _ 1 _ rfl (new_cell _ _ _) rfl (by rw [i64s_len]; omega) (by rw [i64s_len]; omega) (le_alloc hB2.out.size _) ?_; intro v1 w1 ho1 hg1 hb1 hat1; have hb2 := below_append (Below.refl w0.heap.size _) _ hB2.out.size hb1; rw [i64s_snoc] at ho1; have hB1 := Lib.hid (hB2.out.trans hb2); have ho1H := Lib.hid ho1; clear hg1 hb1 hat1 hb2 ho1)
                  go_roundw
                  case rel => first | exact ⟨j1 + 1, f', _, by omega, by go_num, Lib.hid (by have := hfu.out; omega), hu2, Lib.hid (by have := hol.out; simp; omega), (by obtain ⟨a', c', e'⟩ := ho1H.out.len; rw [i64s_len] at e'; exact ⟨a', c', e'⟩), ho1H, hB1⟩ | ((repeat apply Exists.intro); exact ⟨⟨j1 + 1, f', _, by omega, by go_num, Lib.hid (by have := hfu.out; omega), hu2, Lib.hid (by have := hol.out; simp; omega), (by obtain ⟨a', c', e'⟩ := ho1H.out.len; rw [i64s_len] at e'; exact ⟨a', c', e'⟩), ho1H, hB1⟩, rfl⟩)
                  case measure => simp [intOf]; omega
                · by_cases d3 : 56320 ≤ m ∧ m ≤ 57343
                  · have d2 : 2 * j1 + 3 < s.size := by
                      rcases Nat.lt_or_ge (2 * j1 + 3) s.size with h | h
                      · exact h
                      · have := EU3.out (by omega); omega
                    have hu2 := E2.out d2 c1 (by omega) (by rw [← EU2.out d2]; exact d3.1) (by rw [← EU2.out d2]; exact d3.2)
                    rw [← EU2.out d2] at hu2
                    have hu2 := Lib.hid hu2
                    obtain ⟨d4, d5⟩ := d3
                    go_wp2_with fail
                    refine (Ref.within_yes _ _ _ (by omega) (by omega) _).mono ?_; rintro e w' ⟨rfl, rfl⟩
                    go_wp2_with fail
                    refine (Ref.within_yes _ _ _ (by omega) (by omega) _).mono ?_; rintro e w' ⟨rfl, rfl⟩
                    go_wp2_with fail
                    have z0 : IntKind.i64.wrap ((j1 : Int) + 1) = (j1 : Int) + 1 := IntWalk.i64_in _ (by omega)
                    have z1 : IntKind.i64.wrap ((n : Int) - 55296) = (n : Int) - 55296 := IntWalk.i64_in _ (by omega)
                    have z2 : IntKind.i64.wrap (((n : Int) - 55296) * 1024) = ((n : Int) - 55296) * 1024 := IntWalk.i64_in _ (by omega)
                    have z3 : IntKind.i64.wrap (65536 + ((n : Int) - 55296) * 1024) = 65536 + ((n : Int) - 55296) * 1024 := IntWalk.i64_in _ (by omega)
                    have z4 : IntKind.i64.wrap (65536 + ((n : Int) - 55296) * 1024 + (m : Int)) = 65536 + ((n : Int) - 55296) * 1024 + (m : Int) := IntWalk.i64_in _ (by omega)
                    have z5 : IntKind.i64.wrap (65536 + ((n : Int) - 55296) * 1024 + (m : Int) - 56320) = 65536 + ((n : Int) - 55296) * 1024 + (m : Int) - 56320 := IntWalk.i64_in _ (by omega)
                    have ev := Lib.hid (show 65536 + ((n : Int) - 55296) * 1024 + (m : Int) - 56320 = 65536 + ((n : Int) - 55296) * 1024 + ((m : Int) - 56320) by omega)
                    have L1 := Lib.hid (show ((i64s out).length + 1) * 8 ≤ 1000000000000 by rw [i64s_len]; omega)
                    have L2 := Lib.hid (show (i64s out).length + 1 ≤ 1000000000000 by rw [i64s_len]; omega)
                    go_region_law ((refine own_append_step (by rfl) _ _ 50 (by rfl) w0.heap.size 3 (.int .i64 0) 8 Tryd.underlying50 (by kernel_rfl) rfl _ _ (by rfl) ((hO2.out.drew).alloc _) _ 1 _ _ (by rfl) rfl (World.news_of_block (heap_alloc_new _ _)) (by simp [Value.oneCell']) L1.out L2.out (le_alloc (w := wr.drew) hB2.out.size _) ?_; intro v1 w1 ho1 hg1 hb1 hat1))
                    all_goals
                      clear z0 z1 z2 z3 z4 z5
                      have hb2 := (((Below.refl w0.heap.size wr).alloc hB2.out.size _).drew).trans hb1
                      have ho1' : Own w1 w0.heap.size 3 v1 (i64s (out ++ [65536 + ((n : Int) - 55296) * 1024 + ((m : Int) - 56320)])) := by rw [← i64s_snoc, ← ev.out]; exact ho1
                      have hB1 := Lib.hid (hB2.out.trans hb2)
                      have ho1H := Lib.hid ho1'
                      clear hg1 hb1 hat1 hb2 ho1 ho1'
                      go_wp2_with fail
                      go_roundw
                      case rel => first | exact ⟨j1 + 2, f', _, by omega, by go_num, Lib.hid (by have := hfu.out; omega), hu2, Lib.hid (by have := hol.out; simp; omega), (by obtain ⟨a', c', e'⟩ := ho1H.out.len; rw [i64s_len] at e'; exact ⟨a', c', e'⟩), ho1H, hB1⟩ | ((repeat apply Exists.intro); exact ⟨⟨j1 + 2, f', _, by omega, by go_num, Lib.hid (by have := hfu.out; omega), hu2, Lib.hid (by have := hol.out; simp; omega), (by obtain ⟨a', c', e'⟩ := ho1H.out.len; rw [i64s_len] at e'; exact ⟨a', c', e'⟩), ho1H, hB1⟩, rfl⟩)
                      case measure => simp [intOf]; omega
                  · have hu2 := Lib.hid (E3.out c1 (by omega) (fun h => d3 (by have := EU2.out h.2.1; omega)))
                    go_wp2_with fail
                    refine (Ref.within_yes _ _ _ (by omega) (by omega) _).mono ?_; rintro e w' ⟨rfl, rfl⟩
                    go_wp2_with fail
                    refine (Ref.within_no _ _ _ (by omega) _).mono ?_; rintro e w' ⟨rfl, rfl⟩
                    go_wp2_with fail
                    refine (Ref.within_yes _ _ _ (by omega) (by omega) _).mono ?_; rintro e w' ⟨rfl, rfl⟩
                    go_wp2_with (at_builtin; refine own_append1 rfl _ _ 50 rfl w0.heap.size 3 (.int .i64 0) 8 Tryd.underlying50 (by kernel_rfl) rfl _ _ rfl (hO2.out.alloc _) _ 1 _ rfl (new_cell _ _ _) rfl (by rw [i64s_len]; omega) (by rw [i64s_len]; omega) (le_alloc hB2.out.size _) ?_; intro v1 w1 ho1 hg1 hb1 hat1; have hb2 := below_append (Below.refl w0.heap.size _) _ hB2.out.size hb1; rw [i64s_snoc] at ho1; have hB1 := Lib.hid (hB2.out.trans hb2); have ho1H := Lib.hid ho1; clear hg1 hb1 hat1 hb2 ho1)
                    go_roundw
                    case rel => first | exact ⟨j1 + 1, f', _, by omega, by go_num, Lib.hid (by have := hfu.out; omega), hu2, Lib.hid (by have := hol.out; simp; omega), (by obtain ⟨a', c', e'⟩ := ho1H.out.len; rw [i64s_len] at e'; exact ⟨a', c', e'⟩), ho1H, hB1⟩ | ((repeat apply Exists.intro); exact ⟨⟨j1 + 1, f', _, by omega, by go_num, Lib.hid (by have := hfu.out; omega), hu2, Lib.hid (by have := hol.out; simp; omega), (by obtain ⟨a', c', e'⟩ := ho1H.out.len; rw [i64s_len] at e'; exact ⟨a', c', e'⟩), ho1H, hB1⟩, rfl⟩)
                    case measure => simp [intOf]; omega
                · have hu2 := Lib.hid (E3.out (by omega) c2 (fun h => by omega))
                  go_wp2_with fail
                  refine (Ref.within_no _ _ _ (by omega) _).mono ?_; rintro e w' ⟨rfl, rfl⟩
                  go_wp2_with fail
                  refine (Ref.within_yes _ _ _ (by omega) (by omega) _).mono ?_; rintro e w' ⟨rfl, rfl⟩
                  go_wp2_with (at_builtin; refine own_append1 rfl _ _ 50 rfl w0.heap.size 3 (.int .i64 0) 8 Tryd.underlying50 (by kernel_rfl) rfl _ _ rfl (hO2.out.alloc _) _ 1 _ rfl (new_cell _ _ _) rfl (by rw [i64s_len]; omega) (by rw [i64s_len]; omega) (le_alloc hB2.out.size _) ?_; intro v1 w1 ho1 hg1 hb1 hat1; have hb2 := below_append (Below.refl w0.heap.size _) _ hB2.out.size hb1; rw [i64s_snoc] at ho1; have hB1 := Lib.hid (hB2.out.trans hb2); have ho1H := Lib.hid ho1; clear hg1 hb1 hat1 hb2 ho1)
                  go_roundw
                  case rel => first | exact ⟨j1 + 1, f', _, by omega, by go_num, Lib.hid (by have := hfu.out; omega), hu2, Lib.hid (by have := hol.out; simp; omega), (by obtain ⟨a', c', e'⟩ := ho1H.out.len; rw [i64s_len] at e'; exact ⟨a', c', e'⟩), ho1H, hB1⟩ | ((repeat apply Exists.intro); exact ⟨⟨j1 + 1, f', _, by omega, by go_num, Lib.hid (by have := hfu.out; omega), hu2, Lib.hid (by have := hol.out; simp; omega), (by obtain ⟨a', c', e'⟩ := ho1H.out.len; rw [i64s_len] at e'; exact ⟨a', c', e'⟩), ho1H, hB1⟩, rfl⟩)
                  case measure => simp [intOf]; omega
              · exfalso
                have := hN.out
                omega
          · have hu2 := Lib.hid ((nd_end s o f j1 out (by have := hN.out; omega)).symm.trans hu.out)
            have hFq := Lib.hid (hF.out.below hB2.out)
            go_wp2_with fail
            refine (good_any _).mono ?_; rintro e w5 ⟨rfl, hb5⟩
            have hF5 := Lib.hid (hFq.out.below hb5)
            have hO5 := Lib.hid (Own.below hO2.out hb5)
            clear hb5
            obtain ⟨hB, ⟨x0, c0⟩, ⟨x1, c1⟩, f0, f1⟩ := hF5.out
            clear hB
            go_wp2_with fail
            refine bodyPost_ret (v := .tuple #[.slice a1 out.length cap1, .agg #[.int .i64 0, .int .i64 (-1)]]) (by simp [results, Tryd.results28, go_sem, c0, c1]) rfl ?_
            rw [← hu2.out]
            exact ⟨_, rfl, ((hO5.out.setBelow (a := ⟨W.heap.size, 0, none⟩) (Fr.big hF.out) _).setBelow (a := ⟨W.heap.size, 1, none⟩) (Fr.big hF.out) _).ints, hF5.out.stored _ _⟩
      · skip
        have hpar : ((s.size : Int) % 2 == 1) = false := by rw [beq_eq_false_iff_ne]; omega
        go_wp2_with fail
        obtain ⟨w0, hw0⟩ : ∃ w0, w0 = wr := ⟨_, rfl⟩
        rw [← hw0]
        rw [← hw0] at hF hI
        clear hw0 hO
        go_loopw [11, 12] (fun v i wq => ERel s o Z w0.heap.size w0 v i wq) (fun _ i _ => s.size + 2 - (intOf i).toNat)
        case atStart => exact ⟨0, s.size, [], by omega, rfl, Lib.hid (by omega), hZ, Lib.hid (Nat.le_refl _), ⟨_, _, rfl⟩, Lib.hid (own_nil _ _ _), Lib.hid (Below.refl _ _)⟩
        case round =>
          obtain ⟨j1, f, out, hj1, rfl, hfu, hu, hol, ⟨a1, cap1, rfl⟩, hO2, hB2⟩ := hrel
          clear hZ
          have hol2 : out.length ≤ 1001 := by have := hol.out; omega
          by_cases hlt2 : j1 < j
          · obtain ⟨f', rfl⟩ : ∃ f', f = f' + 1 := ⟨f - 1, by have := hfu.out; have := hN.out; omega⟩
            obtain ⟨g, rfl, hcell0⟩ := hI.out j1 hlt2
            have hcell := keepCell hB2.out hcell0
            have i1 : (0 : Int) ≤ (j1 : Int) := by omega
            have i2 : (j1 : Int) < (j : Int) := by omega
            have hnl := uat_lt s o j1
            clear hcell0
            · have hin : 2 * j1 + 1 < s.size := by have := hN.out; omega
              have eu : uat s o j1 = hf s o (2 * j1) := by rw [uat, if_pos hin]
              have E1 := Lib.hid (fun h => (nd_one s o f' j1 out hin h).symm.trans hu.out)
              have E2 := Lib.hid (fun h a b c d => (nd_two s o f' j1 out h a b c d).symm.trans hu.out)
              have E3 := Lib.hid (fun a b c => (nd_bad s o f' j1 out hin a b c).symm.trans hu.out)
              rw [← eu] at E1 E2 E3
              clear eu
              by_cases hnext : j1 + 1 < j
              · obtain ⟨g', had', hcell1⟩ := hI.out (j1 + 1) hnext
                obtain rfl : g = g' := by simpa using had'
                have hcellB := keepCell hB2.out hcell1
                have eu2 : 2 * j1 + 3 < s.size → uat s o (j1 + 1) = hf s o (2 * j1 + 2) := fun h => by rw [uat, if_pos (by omega)]; congr 1
                have eu3 : ¬ 2 * j1 + 3 < s.size → uat s o (j1 + 1) = 55296 := fun h => by rw [uat, if_neg (by omega)]
                have hml := uat_lt s o (j1 + 1)
                have EU2 := Lib.hid eu2
                have EU3 := Lib.hid eu3
                have n1 : (j1 : Int) + 1 < (j : Int) := by omega
                have n2 : (0 : Int) ≤ (j1 : Int) + 1 := by omega
                clear hcell1 eu2 eu3 had'
                generalize uat s o j1 = n at *
                generalize uat s o (j1 + 1) = m at *
                rcases (show (n < 55296 ∨ 57343 < n) ∨ (55296 ≤ n ∧ n ≤ 56319) ∨ (56320 ≤ n ∧ n ≤ 57343) by omega) with hc | ⟨c1, c2⟩ | ⟨c1, c2⟩
                · have hu2 := Lib.hid (E1.out hc)
                  go_wp2_with fail
                  refine (Ref.within_no _ _ _ (by omega) _).mono ?_; rintro e w' ⟨rfl, rfl⟩
                  go_wp2_with fail
                  refine (Ref.within_no _ _ _ (by omega) _).mono ?_; rintro e w' ⟨rfl, rfl⟩
                  go_wp2_with (at_builtin; refine own_append1 rfl _ _ 50 rfl w0.heap.size 3 (.int .i64 0) 8 Tryd.underlying50 (by kernel_rfl) rfl _ _ rfl (hO2.out.alloc _) _ 1 _ rfl (new_cell _ _ _) rfl (by rw [i64s_len]; omega) (by rw [i64s_len]; omega) (le_alloc hB2.out.size _) ?_; intro v1 w1 ho1 hg1 hb1 hat1; have hb2 := below_append (Below.refl w0.heap.size _) _ hB2.out.size hb1; rw [i64s_snoc] at ho1; have hB1 := Lib.hid (hB2.out.trans hb2); have ho1H := Lib.hid ho1; clear hg1 hb1 hat1 hb2 ho1)
                  go_roundw
                  case rel => first | exact ⟨j1 + 1, f', _, by omega, by go_num, Lib.hid (by have := hfu.out; omega), hu2, Lib.hid (by have := hol.out; simp; omega), (by obtain ⟨a', c', e'⟩ := ho1H.out.len; rw [i64s_len] at e'; exact ⟨a', c', e'⟩), ho1H, hB1⟩ | ((repeat apply Exists.intro); exact ⟨⟨j1 + 1, f', _, by omega, by go_num, Lib.hid (by have := hfu.out; omega), hu2, Lib.hid (by have := hol.out; simp; omega), (by obtain ⟨a', c', e'⟩ := ho1H.out.len; rw [i64s_len] at e'; exact ⟨a', c', e'⟩), ho1H, hB1⟩, rfl⟩)
                  case measure => simp [intOf]; omega
                · by_cases d3 : 56320 ≤ m ∧ m ≤ 57343
                  · have d2 : 2 * j1 + 3 < s.size := by
                      rcases Nat.lt_or_ge (2 * j1 + 3) s.size with h | h
                      · exact h
                      · have := EU3.out (by omega); omega
                    have hu2 := E2.out d2 c1 (by omega) (by rw [← EU2.out d2]; exact d3.1) (by rw [← EU2.out d2]; exact d3.2)
                    rw [← EU2.out d2] at hu2
                    have hu2 := Lib.hid hu2
                    obtain ⟨d4, d5⟩ := d3
                    go_wp2_with fail
                    refine (Ref.within_yes _ _ _ (by omega) (by omega) _).mono ?_; rintro e w' ⟨rfl, rfl⟩
                    go_wp2_with fail
                    refine (Ref.within_yes _ _ _ (by omega) (by omega) _).mono ?_; rintro e w' ⟨rfl, rfl⟩
                    go_wp2_with fail
                    have z0 : IntKind.i64.wrap ((j1 : Int) + 1) = (j1 : Int) + 1 := IntWalk.i64_in _ (by omega)
                    have z1 : IntKind.i64.wrap ((n : Int) - 55296) = (n : Int) - 55296 := IntWalk.i64_in _ (by omega)
                    have z2 : IntKind.i64.wrap (((n : Int) - 55296) * 1024) = ((n : Int) - 55296) * 1024 := IntWalk.i64_in _ (by omega)
                    have z3 : IntKind.i64.wrap (65536 + ((n : Int) - 55296) * 1024) = 65536 + ((n : Int) - 55296) * 1024 := IntWalk.i64_in _ (by omega)
                    have z4 : IntKind.i64.wrap (65536 + ((n : Int) - 55296) * 1024 + (m : Int)) = 65536 + ((n : Int) - 55296) * 1024 + (m : Int) := IntWalk.i64_in _ (by omega)
                    have z5 : IntKind.i64.wrap (65536 + ((n : Int) - 55296) * 1024 + (m : Int) - 56320) = 65536 + ((n : Int) - 55296) * 1024 + (m : Int) - 56320 := IntWalk.i64_in _ (by omega)
                    have ev := Lib.hid (show 65536 + ((n : Int) - 55296) * 1024 + (m : Int) - 56320 = 65536 + ((n : Int) - 55296) * 1024 + ((m : Int) - 56320) by omega)
                    have L1 := Lib.hid (show ((i64s out).length + 1) * 8 ≤ 1000000000000 by rw [i64s_len]; omega)
                    have L2 := Lib.hid (show (i64s out).length + 1 ≤ 1000000000000 by rw [i64s_len]; omega)
                    go_region_law ((refine own_append_step (by rfl) _ _ 50 (by rfl) w0.heap.size 3 (.int .i64 0) 8 Tryd.underlying50 (by kernel_rfl) rfl _ _ (by rfl) ((hO2.out.drew).alloc _) _ 1 _ _ (by rfl) rfl (World.news_of_block (heap_alloc_new _ _)) (by simp [Value.oneCell']) L1.out L2.out (le_alloc (w := wr.drew) hB2.out.size _) ?_; intro v1 w1 ho1 hg1 hb1 hat1))
                    all_goals
                      clear z0 z1 z2 z3 z4 z5
                      have hb2 := (((Below.refl w0.heap.size wr).alloc hB2.out.size _).drew).trans hb1
                      have ho1' : Own w1 w0.heap.size 3 v1 (i64s (out ++ [65536 + ((n : Int) - 55296) * 1024 + ((m : Int) - 56320)])) := by rw [← i64s_snoc, ← ev.out]; exact ho1
                      have hB1 := Lib.hid (hB2.out.trans hb2)
                      have ho1H := Lib.hid ho1'
                      clear hg1 hb1 hat1 hb2 ho1 ho1'
                      go_wp2_with fail
                      go_roundw
                      case rel => first | exact ⟨j1 + 2, f', _, by omega, by go_num, Lib.hid (by have := hfu.out; omega), hu2, Lib.hid (by have := hol.out; simp; omega), (by obtain ⟨a', c', e'⟩ := ho1H.out.len; rw [i64s_len] at e'; exact ⟨a', c', e'⟩), ho1H, hB1⟩ | ((repeat apply Exists.intro); exact ⟨⟨j1 + 2, f', _, by omega, by go_num, Lib.hid (by have := hfu.out; omega), hu2, Lib.hid (by have := hol.out; simp; omega), (by obtain ⟨a', c', e'⟩ := ho1H.out.len; rw [i64s_len] at e'; exact ⟨a', c', e'⟩), ho1H, hB1⟩, rfl⟩)
                      case measure => simp [intOf]; omega
                  · have hu2 := Lib.hid (E3.out c1 (by omega) (fun h => d3 (by have := EU2.out h.2.1; omega)))
                    go_wp2_with fail
                    refine (Ref.within_yes _ _ _ (by omega) (by omega) _).mono ?_; rintro e w' ⟨rfl, rfl⟩
                    go_wp2_with fail
                    refine (Ref.within_no _ _ _ (by omega) _).mono ?_; rintro e w' ⟨rfl, rfl⟩
                    go_wp2_with fail
                    refine (Ref.within_yes _ _ _ (by omega) (by omega) _).mono ?_; rintro e w' ⟨rfl, rfl⟩
                    go_wp2_with (at_builtin; refine own_append1 rfl _ _ 50 rfl w0.heap.size 3 (.int .i64 0) 8 Tryd.underlying50 (by kernel_rfl) rfl _ _ rfl (hO2.out.alloc _) _ 1 _ rfl (new_cell _ _ _) rfl (by rw [i64s_len]; omega) (by rw [i64s_len]; omega) (le_alloc hB2.out.size _) ?_; intro v1 w1 ho1 hg1 hb1 hat1; have hb2 := below_append (Below.refl w0.heap.size _) _ hB2.out.size hb1; rw [i64s_snoc] at ho1; have hB1 := Lib.hid (hB2.out.trans hb2); have ho1H := Lib.hid ho1; clear hg1 hb1 hat1 hb2 ho1)
                    go_roundw
                    case rel => first | exact ⟨j1 + 1, f', _, by omega, by go_num, Lib.hid (by have := hfu.out; omega), hu2, Lib.hid (by have := hol.out; simp; omega), (by obtain ⟨a', c', e'⟩ := ho1H.out.len; rw [i64s_len] at e'; exact ⟨a', c', e'⟩), ho1H, hB1⟩ | ((repeat apply Exists.intro); exact ⟨⟨j1 + 1, f', _, by omega, by go_num, Lib.hid (by have := hfu.out; omega), hu2, Lib.hid (by have := hol.out; simp; omega), (by obtain ⟨a', c', e'⟩ := ho1H.out.len; rw [i64s_len] at e'; exact ⟨a', c', e'⟩), ho1H, hB1⟩, rfl⟩)
                    case measure => simp [intOf]; omega
                · have hu2 := Lib.hid (E3.out (by omega) c2 (fun h => by omega))
                  go_wp2_with fail
                  refine (Ref.within_no _ _ _ (by omega) _).mono ?_; rintro e w' ⟨rfl, rfl⟩
                  go_wp2_with fail
                  refine (Ref.within_yes _ _ _ (by omega) (by omega) _).mono ?_; rintro e w' ⟨rfl, rfl⟩
                  go_wp2_with (at_builtin; refine own_append1 rfl _ _ 50 rfl w0.heap.size 3 (.int .i64 0) 8 Tryd.underlying50 (by kernel_rfl) rfl _ _ rfl (hO2.out.alloc _) _ 1 _ rfl (new_cell _ _ _) rfl (by rw [i64s_len]; omega) (by rw [i64s_len]; omega) (le_alloc hB2.out.size _) ?_; intro v1 w1 ho1 hg1 hb1 hat1; have hb2 := below_append (Below.refl w0.heap.size _) _ hB2.out.size hb1; rw [i64s_snoc] at ho1; have hB1 := Lib.hid (hB2.out.trans hb2); have ho1H := Lib.hid ho1; clear hg1 hb1 hat1 hb2 ho1)
                  go_roundw
                  case rel => first | exact ⟨j1 + 1, f', _, by omega, by go_num, Lib.hid (by have := hfu.out; omega), hu2, Lib.hid (by have := hol.out; simp; omega), (by obtain ⟨a', c', e'⟩ := ho1H.out.len; rw [i64s_len] at e'; exact ⟨a', c', e'⟩), ho1H, hB1⟩ | ((repeat apply Exists.intro); exact ⟨⟨j1 + 1, f', _, by omega, by go_num, Lib.hid (by have := hfu.out; omega), hu2, Lib.hid (by have := hol.out; simp; omega), (by obtain ⟨a', c', e'⟩ := ho1H.out.len; rw [i64s_len] at e'; exact ⟨a', c', e'⟩), ho1H, hB1⟩, rfl⟩)
                  case measure => simp [intOf]; omega
              · have n1 : ¬ (j1 : Int) + 1 < (j : Int) := by omega
                have d2 : ¬ 2 * j1 + 3 < s.size := by have := hN.out; omega
                generalize uat s o j1 = n at *
                rcases (show (n < 55296 ∨ 57343 < n) ∨ (55296 ≤ n ∧ n ≤ 56319) ∨ (56320 ≤ n ∧ n ≤ 57343) by omega) with hc | ⟨c1, c2⟩ | ⟨c1, c2⟩
                · have hu2 := Lib.hid (E1.out hc)
                  go_wp2_with fail
                  refine (Ref.within_no _ _ _ (by omega) _).mono ?_; rintro e w' ⟨rfl, rfl⟩
                  go_wp2_with fail
                  refine (Ref.within_no _ _ _ (by omega) _).mono ?_; rintro e w' ⟨rfl, rfl⟩
                  go_wp2_with (at_builtin; refine own_append1 rfl _ _ 50 rfl w0.heap.size 3 (.int .i64 0) 8 Tryd.underlying50 (by kernel_rfl) rfl _ _ rfl (hO2.out.alloc _) _ 1 _ rfl (new_cell _ _ _) rfl (by rw [i64s_len]; omega) (by rw [i64s_len]; omega) (le_alloc hB2.out.size _) ?_; intro v1 w1 ho1 hg1 hb1 hat1; have hb2 := below_append (Below.refl w0.heap.size _) _ hB2.out.size hb1; rw [i64s_snoc] at ho1; have hB1 := Lib.hid (hB2.out.trans hb2); have ho1H := Lib.hid ho1; clear hg1 hb1 hat1 hb2 ho1)
                  go_roundw
                  case rel => first | exact ⟨j1 + 1, f', _, by omega, by go_num, Lib.hid (by have := hfu.out; omega), hu2, Lib.hid (by have := hol.out; simp; omega), (by obtain ⟨a', c', e'⟩ := ho1H.out.len; rw [i64s_len] at e'; exact ⟨a', c', e'⟩), ho1H, hB1⟩ | ((repeat apply Exists.intro); exact ⟨⟨j1 + 1, f', _, by omega, by go_num, Lib.hid (by have := hfu.out; omega), hu2, Lib.hid (by have := hol.out; simp; omega), (by obtain ⟨a', c', e'⟩ := ho1H.out.len; rw [i64s_len] at e'; exact ⟨a', c', e'⟩), ho1H, hB1⟩, rfl⟩)
                  case measure => simp [intOf]; omega
                · have hu2 := Lib.hid (E3.out c1 (by omega) (fun h => d2 h.2.1))
                  go_wp2_with fail
                  refine (Ref.within_yes _ _ _ (by omega) (by omega) _).mono ?_; rintro e w' ⟨rfl, rfl⟩
                  go_wp2_with fail
                  refine (Ref.within_yes _ _ _ (by omega) (by omega) _).mono ?_; rintro e w' ⟨rfl, rfl⟩
                  go_wp2_with (at_builtin; refine own_append1 rfl _ _ 50 rfl w0.heap.size 3 (.int .i64 0) 8 Tryd.underlying50 (by kernel_rfl) rfl _ _ rfl (hO2.out.alloc _) _ 1 _ rfl (new_cell _ _ _) rfl (by rw [i64s_len]; omega) (by rw [i64s_len]; omega) (le_alloc hB2.out.size _) ?_; intro v1 w1 ho1 hg1 hb1 hat1; have hb2 := below_append (Below.refl w0.heap.size _) _ hB2.out.size hb1; rw [i64s_snoc] at ho1; have hB1 := Lib.hid (hB2.out.trans hb2); have ho1H := Lib.hid ho1; clear hg1 hb1 hat1 hb2 ho1)
                  go_roundw
                  case rel => first | exact ⟨j1 + 1, f', _, by omega, by go_num, Lib.hid (by have := hfu.out; omega), hu2, Lib.hid (by have := hol.out; simp; omega), (by obtain ⟨a', c', e'⟩ := ho1H.out.len; rw [i64s_len] at e'; exact ⟨a', c', e'⟩), ho1H, hB1⟩ | ((repeat apply Exists.intro); exact ⟨⟨j1 + 1, f', _, by omega, by go_num, Lib.hid (by have := hfu.out; omega), hu2, Lib.hid (by have := hol.out; simp; omega), (by obtain ⟨a', c', e'⟩ := ho1H.out.len; rw [i64s_len] at e'; exact ⟨a', c', e'⟩), ho1H, hB1⟩, rfl⟩)
                  case measure => simp [intOf]; omega
                · have hu2 := Lib.hid (E3.out (by omega) c2 (fun h => d2 h.2.1))
                  go_wp2_with fail
                  refine (Ref.within_no _ _ _ (by omega) _).mono ?_; rintro e w' ⟨rfl, rfl⟩
                  go_wp2_with fail
                  refine (Ref.within_yes _ _ _ (by omega) (by omega) _).mono ?_; rintro e w' ⟨rfl, rfl⟩
                  go_wp2_with (at_builtin; refine own_append1 rfl _ _ 50 rfl w0.heap.size 3 (.int .i64 0) 8 Tryd.underlying50 (by kernel_rfl) rfl _ _ rfl (hO2.out.alloc _) _ 1 _ rfl (new_cell _ _ _) rfl (by rw [i64s_len]; omega) (by rw [i64s_len]; omega) (le_alloc hB2.out.size _) ?_; intro v1 w1 ho1 hg1 hb1 hat1; have hb2 := below_append (Below.refl w0.heap.size _) _ hB2.out.size hb1; rw [i64s_snoc] at ho1; have hB1 := Lib.hid (hB2.out.trans hb2); have ho1H := Lib.hid ho1; clear hg1 hb1 hat1 hb2 ho1)
                  go_roundw
                  case rel => first | exact ⟨j1 + 1, f', _, by omega, by go_num, Lib.hid (by have := hfu.out; omega), hu2, Lib.hid (by have := hol.out; simp; omega), (by obtain ⟨a', c', e'⟩ := ho1H.out.len; rw [i64s_len] at e'; exact ⟨a', c', e'⟩), ho1H, hB1⟩ | ((repeat apply Exists.intro); exact ⟨⟨j1 + 1, f', _, by omega, by go_num, Lib.hid (by have := hfu.out; omega), hu2, Lib.hid (by have := hol.out; simp; omega), (by obtain ⟨a', c', e'⟩ := ho1H.out.len; rw [i64s_len] at e'; exact ⟨a', c', e'⟩), ho1H, hB1⟩, rfl⟩)
                  case measure => simp [intOf]; omega
          · have hu2 := Lib.hid ((nd_end s o f j1 out (by have := hN.out; omega)).symm.trans hu.out)
            have hFq := Lib.hid (hF.out.below hB2.out)
            go_wp2_with fail
            refine (good_any _).mono ?_; rintro e w5 ⟨rfl, hb5⟩
            have hF5 := Lib.hid (hFq.out.below hb5)
            have hO5 := Lib.hid (Own.below hO2.out hb5)
            clear hb5
            obtain ⟨hB, ⟨x0, c0⟩, ⟨x1, c1⟩, f0, f1⟩ := hF5.out
            clear hB
            go_wp2_with fail
            refine bodyPost_ret (v := .tuple #[.slice a1 out.length cap1, .agg #[.int .i64 0, .int .i64 (-1)]]) (by simp [results, Tryd.results28, go_sem, c0, c1]) rfl ?_
            rw [← hu2.out]
            exact ⟨_, rfl, ((hO5.out.setBelow (a := ⟨W.heap.size, 0, none⟩) (Fr.big hF.out) _).setBelow (a := ⟨W.heap.size, 1, none⟩) (Fr.big hF.out) _).ints, hF5.out.stored _ _⟩
end Go.Proofs.YtifnochpmlllgaaDoor.Nar
