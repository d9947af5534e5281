/-
  PROVED HERE: the contract of ex.Parse. Conditions: as each theorem states.
-/
import Derived.Test.YtehmnohkfchljaaDoorExB
import Derived.Test.YtehmnohkfchljaaDoorExC
import Derived.Test.YtehmnohkfchljaaDoorExP
namespace Go.Proofs.YtehmnohkfchljaaDoor.Ex
open Go.RowKit Dig Go.Lib
/-- What Parse answers. -/
def ParP (Z : Cmd) (W : World) (e : Ending) (w' : World) : Prop :=
  ∃ vn vb vq, e = .returned (.tuple #[.agg #[.string Z.w, vn, vb, vq], ev Z.e]) ∧ Own w' 0 3 vn (i64s Z.n) ∧ Own w' 0 9 vb (strs Z.b) ∧ Own w' 0 3 vq (i64s Z.q) ∧ Below W.heap.size W w'
theorem wd_small (s : ByteArray) : (wd s).length ≤ s.size + 1 ∧ ∀ x ∈ wd s, x.size ≤ s.size := by
  have h := split_tot 32 _ s rfl
  exact ⟨Nat.le_trans (List.length_filter_le _ _) h.1, fun x hx => h.2 x (List.mem_filter.1 hx).1⟩
/-- The result's cells, made first. -/
def made (W : World) : World := W.alloc (.cells #[.string ⟨#[]⟩, .slice none 0 0, .slice none 0 0, .slice none 0 0] 29)
theorem made_size (W : World) : (made W).heap.size = W.heap.size + 1 := by unfold made; rw [World.size_alloc]
theorem made_cell (W : World) (j : Nat) (h : j < 4) : ∃ v, (made W).cell? ⟨W.heap.size, j, none⟩ = some v ∧ (made W).frozen? ⟨W.heap.size, j, none⟩ = false := by
  unfold made
  rw [World.cell?_alloc_new, World.frozen?_alloc_mark]
  rcases j with _ | _ | _ | _ | j
  · exact ⟨_, rfl, by simp⟩
  · exact ⟨_, rfl, by simp⟩
  · exact ⟨_, rfl, by simp⟩
  · exact ⟨_, rfl, by simp⟩
  · omega
/-- Four cells written. -/
def put4 (W A : World) (a b c d : Value) : World := (((A.setCell ⟨W.heap.size, 0, none⟩ a).setCell ⟨W.heap.size, 1, none⟩ b).setCell ⟨W.heap.size, 2, none⟩ c).setCell ⟨W.heap.size, 3, none⟩ d
theorem put4_below {W A : World} (h : Below (made W).heap.size (made W) A) (a b c d : Value) : Below W.heap.size W (put4 W A a b c d) := by
  have h0 : Below W.heap.size W A := ((Below.refl _ W).alloc (Nat.le_refl _) _).trans (h.mono (by rw [made_size]; omega))
  exact (((h0.setCell (p := ⟨W.heap.size, 0, none⟩) (Nat.le_refl _) _).setCell (p := ⟨W.heap.size, 1, none⟩) (Nat.le_refl _) _).setCell (p := ⟨W.heap.size, 2, none⟩) (Nat.le_refl _) _).setCell (p := ⟨W.heap.size, 3, none⟩) (Nat.le_refl _) _
theorem put4_own {W A : World} {H E : Nat} {v : Value} {xs : List Value} (h : Own A H E v xs) (hH : W.heap.size < H) (a b c d : Value) : Own (put4 W A a b c d) 0 E v xs :=
  ((((h.setBelow (a := ⟨W.heap.size, 0, none⟩) hH a).setBelow (a := ⟨W.heap.size, 1, none⟩) hH b).setBelow (a := ⟨W.heap.size, 2, none⟩) hH c).setBelow (a := ⟨W.heap.size, 3, none⟩) hH d).base (Nat.zero_le _)
theorem put4_nil {W A : World} {E : Nat} (a b c d : Value) : Own (put4 W A a b c d) 0 E (.slice none 0 0) [] := own_nil _ _ _
theorem own_lit1 (w : World) (E : Nat) (u : Value) : Own (w.alloc (.cells #[u] E)) w.heap.size E (.slice (some ⟨w.heap.size, 0, none⟩) 1 1) [u] :=
  World.ownsRow_lit (base := w.heap.size) (e := E) (size := 1) w #[u] 1 (Nat.le_refl _) (by unfold maxLen; omega) rfl
theorem path_all (t : ByteArray) (ht : t.size ≤ 1000) (W : World) : Calls Tryd.prog 21 #[.string t] W (PaP (pth t) W) := by
  by_cases h : t.toList = [45]
  · rw [show pth t = some [] from if_pos h]; exact path_dash t h W
  · rw [show pth t = pt (Spl.PS 46 t) [] from if_neg h]; exact path_any t ht h W
theorem cm_new (w : World) (x : ByteArray) : CM w w.heap.size (w.heap.size + 1) none x (.slice none 0 0) (.slice none 0 0) (.slice none 0 0) [] [] [] (w.alloc (.cells #[.string x, .slice none 0 0, .slice none 0 0, .slice none 0 0] 29)) := by
  refine ⟨(Below.refl _ _).alloc (Nat.le_refl _) _, Nat.lt_succ_self _, by rw [World.size_alloc]; exact Nat.le_refl _, ?_, ?_, ?_, ?_, ?_, own_nil _ _ _, own_nil _ _ _, own_nil _ _ _, (fun r e => by cases e), (fun r e => by cases e), (fun r e => by cases e), (fun o e => by cases e)⟩
  · rw [World.cell?_alloc_new]; rfl
  · rw [World.cell?_alloc_new]; rfl
  · rw [World.cell?_alloc_new]; rfl
  · rw [World.cell?_alloc_new]; rfl
  · intro j; rw [World.frozen?_alloc_mark]; simp
set_option maxRecDepth 100000 in
set_option maxHeartbeats 8000000 in
theorem parse_any (s : ByteArray) (hs : s.size ≤ 200) (W : World) : Calls Tryd.prog 5 #[.string s] W (ParP (cmd (wd s)) W) := by
  have FF := Tryd.strings_FieldsFunc 17 #[] (enters_of Tryd.func17 (by kernel_rfl) rfl) isBl s (made W) (by omega) (blank_any _)
  rw [fields_wd] at FF
  obtain ⟨Z, hZ⟩ : ∃ Z, cmd (wd s) = Z := ⟨_, rfl⟩
  rw [hZ]
  have HZ := Lib.hid hZ
  clear hZ
  obtain ⟨hn1, hn2⟩ := wd_small s
  generalize wd s = ws at *
  have hwl : ws.length ≤ 201 := by omega
  have hwx : Hid (∀ x ∈ ws, x.size ≤ 1000) := Lib.hid (fun x hx => Nat.le_trans (hn2 x hx) (by omega))
  have HFF := Lib.hid FF
  obtain ⟨z0, y0, g0⟩ := made_cell W 0 (by omega)
  obtain ⟨z1, y1, g1⟩ := made_cell W 1 (by omega)
  obtain ⟨z2, y2, g2⟩ := made_cell W 2 (by omega)
  obtain ⟨z3, y3, g3⟩ := made_cell W 3 (by omega)
  have HY := Lib.hid (show _ ∧ _ ∧ _ ∧ _ ∧ _ ∧ _ ∧ _ ∧ _ from ⟨y0, y1, y2, y3, g0, g1, g2, g3⟩)
  clear FF hn1 hn2 y0 y1 y2 y3 g0 g1 g2 g3 hs
  go_enter Tryd.func5, Tryd.ntmps5
  go_wp2_with fail
  refine HFF.out.mono ?_; rintro e w2 ⟨A, rfl, hA, hrow, hb2⟩
  have hcell : Hid (∀ j (h : j < ws.length), w2.cell? ⟨A, j, none⟩ = some (.string ws[j])) := Lib.hid (fun j hj => by
    have := World.ownsRow.cellAt hrow j (by omega)
    rw [this]
    simp [hj])
  have HB := Lib.hid hb2
  have hA2 : A < w2.heap.size := by
    rcases hrow.2 with ⟨h, _⟩ | ⟨g, cap, cur, h, _, hg, _⟩
    · cases h
    · cases h; exact (Array.getElem?_eq_some_iff.1 hg).1
  clear hrow
  have k := HY.out
  have x0 := keepCell hb2 k.1
  have x1 := keepCell hb2 k.2.1
  have x2 := keepCell hb2 k.2.2.1
  have x3 := keepCell hb2 k.2.2.2.1
  have f0 := keepFree hb2 k.1 k.2.2.2.2.1
  have f1 := keepFree hb2 k.2.1 k.2.2.2.2.2.1
  have f2 := keepFree hb2 k.2.2.1 k.2.2.2.2.2.2.1
  have f3 := keepFree hb2 k.2.2.2.1 k.2.2.2.2.2.2.2
  clear k HY hb2 HFF
  cases ws with
  | nil =>
    obtain rfl : Z = bad := HZ.out.symm
    go_wp2_with fail
    refine bodyPost_ret (v := .tuple #[.agg #[.string ⟨#[]⟩, .slice none 0 0, .slice none 0 0, .slice none 0 0], .iface 26 (.int .i64 3)]) (by simp [results, Tryd.results5, go_sem, x0, x1, x2, x3]) rfl ?_
    exact ⟨_, _, _, rfl, put4_nil _ _ _ _, put4_nil _ _ _ _, put4_nil _ _ _ _, put4_below HB.out _ _ _ _⟩
  | cons x r =>
    have hx : w2.cell? ⟨A, 0, none⟩ = some (.string x) := hcell.out 0 (Nat.zero_lt_succ _)
    have C1 : Hid (∀ W, Calls Tryd.prog 18 #[.string x] W fun e w' => e = .returned (.tuple #[.int .i64 (num x), ev (nume x)]) ∧ Below W.heap.size W w') := Lib.hid (fun W => number_any x (hwx.out x (List.mem_cons_self ..)) W)
    have C2 := Lib.hid (fun W => form_any x W)
    have mW : ¬ W.heap.size = w2.heap.size := by have := HB.out.size; rw [made_size] at this; omega
    obtain ⟨L, hL⟩ : ∃ L, (x :: r).length = L := ⟨_, rfl⟩
    have hL1 : L = r.length + 1 := hL ▸ rfl
    rw [hL]
    have l0 : ((L : Int) == 0) = false := by rw [beq_eq_false_iff_ne]; omega
    have l2 : (0 : Int) < (L : Int) := by omega
    have l4 : L ≤ 201 := by omega
    clear hwl
    by_cases hr : r = []
    · have l3 : ((L : Int) == 1) = true := by rw [hL1, hr]; rfl
      by_cases hn : nume x = 0
      · subst hr
        obtain rfl := HZ.out.symm.trans (cmd_go hn)
        rw [hn] at C1
        have hev : ev 0 = .nilIface := rfl
        rw [hev] at C1
        clear hev hn hL hL1
        go_wp2_with fail
        refine (C1.out _).mono ?_; rintro e w3 ⟨rfl, hb3⟩
        replace f0 := keepFree hb3 x0 f0
        replace f1 := keepFree hb3 x1 f1
        replace f2 := keepFree hb3 x2 f2
        replace f3 := keepFree hb3 x3 f3
        replace x0 := keepCell hb3 x0
        replace x1 := keepCell hb3 x1
        replace x2 := keepCell hb3 x2
        replace x3 := keepCell hb3 x3
        replace hx := keepCell hb3 hx
        replace HB := Lib.hid (HB.out.trans (hb3.mono HB.out.size))
        clear hcell
        replace hA2 := Nat.lt_of_lt_of_le hA2 hb3.size
        replace mW : ¬ W.heap.size = w3.heap.size := by have := HB.out.size; rw [made_size] at this; omega
        clear hb3
        have X0 := keepCell ((Below.refl _ w3).alloc (Nat.le_refl _) (.cells #[.int .i64 (num x)] 3)) x0
        have X1 := keepCell ((Below.refl _ w3).alloc (Nat.le_refl _) (.cells #[.int .i64 (num x)] 3)) x1
        have X2 := keepCell ((Below.refl _ w3).alloc (Nat.le_refl _) (.cells #[.int .i64 (num x)] 3)) x2
        have X3 := keepCell ((Below.refl _ w3).alloc (Nat.le_refl _) (.cells #[.int .i64 (num x)] 3)) x3
        have F0 := keepFree ((Below.refl _ w3).alloc (Nat.le_refl _) (.cells #[.int .i64 (num x)] 3)) x0 f0
        have F1 := keepFree ((Below.refl _ w3).alloc (Nat.le_refl _) (.cells #[.int .i64 (num x)] 3)) x1 f1
        have F2 := keepFree ((Below.refl _ w3).alloc (Nat.le_refl _) (.cells #[.int .i64 (num x)] 3)) x2 f2
        have F3 := keepFree ((Below.refl _ w3).alloc (Nat.le_refl _) (.cells #[.int .i64 (num x)] 3)) x3 f3
        clear x0 x1 x2 x3 f0 f1 f2 f3
        go_wp2_with fail
        refine bodyPost_ret (v := .tuple #[.agg #[.string ⟨#[103, 111]⟩, .slice (some ⟨w3.heap.size, 0, none⟩) 1 1, .slice none 0 0, .slice none 0 0], .nilIface]) (by simp [results, Tryd.results5, go_sem, X0, X1, X2, X3]) rfl ?_
        exact ⟨_, _, _, rfl, put4_own (own_lit1 w3 _ _) (by have := HB.out.size; rw [made_size] at this; omega) _ _ _ _, put4_nil _ _ _ _, put4_nil _ _ _ _, put4_below (HB.out.alloc HB.out.size _) _ _ _ _⟩
      · have hne : r = [] → nume x ≠ 0 := fun _ => hn
        have hev : ev (nume x) = .iface 26 (.int .i64 (nume x)) := if_neg hn
        rw [hev] at C1
        clear hev hn hr
        cases hf : frm x.toList with
        | none =>
          obtain rfl : Z = bad := HZ.out.symm.trans (cmd_none hne hf)
          rw [hf] at C2
          change Hid (∀ W, Calls _ _ _ W fun e w' => e = .returned (.tuple #[.string ⟨#[]⟩, .bool false]) ∧ w' = W) at C2
          clear hf hne hL hL1
          go_wp2_with fail
          refine (C1.out _).mono ?_; rintro e w3 ⟨rfl, hb3⟩
          replace f0 := keepFree hb3 x0 f0
          replace f1 := keepFree hb3 x1 f1
          replace f2 := keepFree hb3 x2 f2
          replace f3 := keepFree hb3 x3 f3
          replace x0 := keepCell hb3 x0
          replace x1 := keepCell hb3 x1
          replace x2 := keepCell hb3 x2
          replace x3 := keepCell hb3 x3
          replace hx := keepCell hb3 hx
          replace HB := Lib.hid (HB.out.trans (hb3.mono HB.out.size))
          replace hcell := Lib.hid (fun j (h : j < (x :: r).length) => keepCell hb3 (hcell.out j h))
          replace hA2 := Nat.lt_of_lt_of_le hA2 hb3.size
          replace mW : ¬ W.heap.size = w3.heap.size := by have := HB.out.size; rw [made_size] at this; omega
          clear hb3
          go_wp2_with fail
          refine (C2.out _).mono ?_; rintro e w4 ⟨rfl, rfl⟩
          go_wp2_with fail
          refine bodyPost_ret (v := .tuple #[.agg #[.string ⟨#[]⟩, .slice none 0 0, .slice none 0 0, .slice none 0 0], .iface 26 (.int .i64 3)]) (by simp [results, Tryd.results5, go_sem, x0, x1, x2, x3]) rfl ?_
          exact ⟨_, _, _, rfl, put4_nil _ _ _ _, put4_nil _ _ _ _, put4_nil _ _ _ _, put4_below HB.out _ _ _ _⟩
        | some ks =>
          rw [hf] at C2
          change Hid (∀ W, Calls _ _ _ W fun e w' => e = .returned (.tuple #[.string (fs lp ks), .bool true]) ∧ w' = W) at C2
          have hz := fs_size lp ks
          by_cases hl : ks.length = r.length
          · have HG : Hid (fin x (go ks r [] [] []) = Z) := Lib.hid ((cmd_fin hne hf hl).symm.trans HZ.out)
            have HK := Lib.hid (frm_form hf)
            have l1 : ((L : Int) != (ks.length : Int) + 1) = false := by rw [bne_eq_false_iff_eq]; omega
            rw [← hz] at l1
            have hzH := Lib.hid hz
            have hLH := Lib.hid hL1
            have hlH := Lib.hid hl
            have l5 : (fs lp ks).size ≤ 3 := by rw [hz]; exact (frm_form hf).1
            clear hf hne hz hL hL1 hl
            obtain ⟨F, hF⟩ : ∃ F, fs lp ks = F := ⟨_, rfl⟩
            have HFb : Hid (∀ j (h : j < ks.length), byteAt F j = (lp ks[j]).toNat) := Lib.hid (fun j h => by rw [← hF]; exact fs_byte lp ks j h)
            rw [hF] at l1 hzH C2 l5
            clear hF
            go_wp2_with fail
            refine (C1.out _).mono ?_; rintro e w3 ⟨rfl, hb3⟩
            replace f0 := keepFree hb3 x0 f0
            replace f1 := keepFree hb3 x1 f1
            replace f2 := keepFree hb3 x2 f2
            replace f3 := keepFree hb3 x3 f3
            replace x0 := keepCell hb3 x0
            replace x1 := keepCell hb3 x1
            replace x2 := keepCell hb3 x2
            replace x3 := keepCell hb3 x3
            replace hx := keepCell hb3 hx
            replace HB := Lib.hid (HB.out.trans (hb3.mono HB.out.size))
            replace hcell := Lib.hid (fun j (h : j < (x :: r).length) => keepCell hb3 (hcell.out j h))
            replace hA2 := Nat.lt_of_lt_of_le hA2 hb3.size
            replace mW : ¬ W.heap.size = w3.heap.size := by have := HB.out.size; rw [made_size] at this; omega
            clear hb3
            go_wp2_with fail
            refine (C2.out _).mono ?_; rintro e w4 ⟨rfl, rfl⟩
            go_wp2_with fail
            have HM0 := Lib.hid (cm_new w4 x)
            clear hx C2
            go_loopw [61] (fun i wr => ∃ (j : Nat) (vn vb vq : Value) (N : List Int) (B : List ByteArray) (Q : List Int), j ≤ F.size ∧ i = .int .i64 (j : Int) ∧ N.length ≤ j ∧ B.length ≤ j ∧ Hid (go (ks.drop j) (r.drop j) N B Q = go ks r [] [] []) ∧ Hid (CM w4 w4.heap.size (w4.heap.size + 1) none x vn vb vq N B Q wr)) (fun i _ => F.size - (intOf i).toNat)
            case atStart => exact ⟨0, _, _, _, [], [], [], Nat.zero_le _, rfl, Nat.le_refl _, Nat.le_refl _, Lib.hid rfl, HM0⟩
            case round =>
              obtain ⟨j, vn, vb, vq, N, B, Q, hj, rfl, hN, hBl, hgo, HM⟩ := hrel
              clear HM0
              by_cases hlt : j < F.size
              · have hjk : j < ks.length := by rw [← hzH.out]; exact hlt
                have hjr : j < r.length := hlH.out ▸ hjk
                have hd1 := List.drop_eq_getElem_cons hjk
                have hd2 := List.drop_eq_getElem_cons hjr
                have hfb := HFb.out j hjk
                have hk3 := HK.out.2.1 ks[j] (List.getElem_mem hjk)
                have hct : wr.cell? ⟨A, j + 1, none⟩ = some (.string r[j]) := keepCell HM.out.bel (hcell.out (j + 1) (Nat.succ_lt_succ hjr))
                have hts : r[j].size ≤ 1000 := hwx.out _ (List.mem_cons_of_mem _ (List.getElem_mem hjr))
                have hgo2 := hgo.out
                rw [hd1, hd2] at hgo2
                generalize ks[j] = k at *
                generalize r[j] = t at *
                have hb := byteAt_eq F j hlt
                rw [hfb] at hb
                have i1 : (0 : Int) ≤ (j : Int) := by omega
                have i2 : (j : Int) < (F.size : Int) := by omega
                have i3 : (0 : Int) ≤ (j : Int) + 1 := by omega
                have i4 : (j : Int) + 1 < (L : Int) := by have := hLH.out; have := hlH.out; omega
                have j3 : j ≤ 3 := by omega
                obtain ⟨an, pn, rfl⟩ := HM.out.on.len
                obtain ⟨ab, pb, rfl⟩ := HM.out.ob.len
                rw [i64s_len, strs_len] at HM
                have HX := Lib.hid (show _ ∧ _ ∧ _ ∧ _ ∧ _ ∧ _ ∧ _ ∧ _ from ⟨x0, x1, x2, x3, f0, f1, f2, f3⟩)
                clear hd1 hd2 hfb hgo x0 x1 x2 x3 f0 f1 f2 f3
                rcases (show k = 0 ∨ k = 1 ∨ k = 2 by omega) with rfl | rfl | rfl
                · have e1 : ((F[j].toNat : Int) == 110) = true := by rw [hb]; rfl
                  have C : Hid (∀ W, Calls Tryd.prog 18 #[.string t] W fun e w' => e = .returned (.tuple #[.int .i64 (num t), ev (nume t)]) ∧ Below W.heap.size W w') := Lib.hid (fun W => number_any t hts W)
                  clear hb
                  by_cases he : nume t = 0
                  · rw [he] at C
                    have hev : ev 0 = .nilIface := rfl
                    rw [hev] at C
                    rw [go_num he] at hgo2
                    have HGO := Lib.hid hgo2
                    clear hev he hgo2
                    go_wp2_with fail
                    refine (C.out _).mono ?_; rintro e A1 ⟨rfl, hB1⟩
                    have HM1 := HM.out.below hB1
                    have c1 := HM1.c1
                    have g1 := HM1.fz 1
                    have HMA := Lib.hid (HM1.alloc (.cells #[.int .i64 (num t)] 3))
                    have L1 : Hid ((i64s N).length + 1 ≤ 1000000000000) := Lib.hid (by rw [i64s_len]; omega)
                    have L2 : Hid (((i64s N).length + 1) * 8 ≤ 1000000000000) := Lib.hid (by rw [i64s_len]; omega)
                    clear HM1 hB1
                    go_wp2_with (at_builtin; refine own_append1 rfl _ _ 22 rfl (w4.heap.size + 1) 3 (.int .i64 0) 8 Tryd.underlying22 infoInt rfl _ _ rfl HMA.out.on A1.heap.size 1 (.int .i64 (num t)) rfl (new_cell _ _ _) rfl L2.out L1.out HMA.out.sz ?_; intro v' w5 ho hg hb5 hor; rw [i64s_snoc] at ho; obtain ⟨x', c', hv'⟩ := ho.len; rw [i64s_len, List.length_append, List.length_singleton] at hv'; subst hv'; have HR := Lib.hid (HMA.out.numset hg ho hor); have c1' := HR.out.1; have g1' := HR.out.2.1; have HB5 := Lib.hid hb5; clear ho hg hb5 hor c1 g1)
                    go_roundw
                    case rel => exact ⟨j + 1, _, _, vq, N ++ [num t], B, Q, hlt, by go_num, by simp; omega, by omega, HGO, Lib.hid HR.out.2.2⟩
                    case measure => simp [intOf]; omega
                  · have hev : ev (nume t) = .iface 26 (.int .i64 (nume t)) := if_neg he
                    rw [hev] at C
                    rw [go_num_bad he] at hgo2
                    obtain rfl : Z = bad := by rw [← HG.out, ← hgo2]; rfl
                    clear hev he hgo2
                    go_wp2_with fail
                    refine (C.out _).mono ?_; rintro e A1 ⟨rfl, hB1⟩
                    have HM1 := HM.out.below hB1
                    have c1 := HM1.c1
                    have g1 := HM1.fz 1
                    have HMA := Lib.hid (HM1.alloc (.cells #[.int .i64 (num t)] 3))
                    have L1 : Hid ((i64s N).length + 1 ≤ 1000000000000) := Lib.hid (by rw [i64s_len]; omega)
                    have L2 : Hid (((i64s N).length + 1) * 8 ≤ 1000000000000) := Lib.hid (by rw [i64s_len]; omega)
                    clear HM1 hB1
                    go_wp2_with (at_builtin; refine own_append1 rfl _ _ 22 rfl (w4.heap.size + 1) 3 (.int .i64 0) 8 Tryd.underlying22 infoInt rfl _ _ rfl HMA.out.on A1.heap.size 1 (.int .i64 (num t)) rfl (new_cell _ _ _) rfl L2.out L1.out HMA.out.sz ?_; intro v' w5 ho hg hb5 hor; rw [i64s_snoc] at ho; obtain ⟨x', c', hv'⟩ := ho.len; rw [i64s_len, List.length_append, List.length_singleton] at hv'; subst hv'; have HR := Lib.hid (HMA.out.numset hg ho hor); have c1' := HR.out.1; have g1' := HR.out.2.1; have HB5 := Lib.hid hb5; clear ho hg hb5 hor c1 g1; have k5 := HMA.out.bel.trans (HB5.out.mono (Nat.le_succ _)); have x0 := keepCell k5 HX.out.1; have x1 := keepCell k5 HX.out.2.1; have x2 := keepCell k5 HX.out.2.2.1; have x3 := keepCell k5 HX.out.2.2.2.1; have f0 := keepFree k5 HX.out.1 HX.out.2.2.2.2.1; have f1 := keepFree k5 HX.out.2.1 HX.out.2.2.2.2.2.1; have f2 := keepFree k5 HX.out.2.2.1 HX.out.2.2.2.2.2.2.1; have f3 := keepFree k5 HX.out.2.2.2.1 HX.out.2.2.2.2.2.2.2; clear k5)
                    refine bodyPost_ret (v := .tuple #[.agg #[.string ⟨#[]⟩, .slice none 0 0, .slice none 0 0, .slice none 0 0], .iface 26 (.int .i64 3)]) (by simp [results, Tryd.results5, go_sem, x0, x1, x2, x3]) rfl ?_
                    exact ⟨_, _, _, rfl, put4_nil _ _ _ _, put4_nil _ _ _ _, put4_nil _ _ _ _, put4_below (HB.out.trans (HR.out.2.2.bel.mono HB.out.size)) _ _ _ _⟩
                · have e1 : ((F[j].toNat : Int) == 110) = false := by rw [hb]; rfl
                  have e2 : ((F[j].toNat : Int) == 98) = true := by rw [hb]; rfl
                  have C := Lib.hid (fun W => bytes_any t hts W)
                  clear hb
                  cases he : byt t with
                  | some b =>
                    rw [he] at C
                    change Hid (∀ W, Calls _ _ _ W fun e w' => e = .returned (.tuple #[.string b, .nilIface]) ∧ Below W.heap.size W w') at C
                    rw [go_byt he] at hgo2
                    have HGO := Lib.hid hgo2
                    clear he hgo2
                    go_wp2_with fail
                    refine (C.out _).mono ?_; rintro e A1 ⟨rfl, hB1⟩
                    have HM1 := HM.out.below hB1
                    have c1 := HM1.c2
                    have g1 := HM1.fz 2
                    have HMA := Lib.hid (HM1.alloc (.cells #[.string (b)] 9))
                    have L1 : Hid ((strs B).length + 1 ≤ 1000000000000) := Lib.hid (by rw [strs_len]; omega)
                    have L2 : Hid (((strs B).length + 1) * 16 ≤ 1000000000000) := Lib.hid (by rw [strs_len]; omega)
                    clear HM1 hB1
                    go_wp2_with (at_builtin; refine own_append1 rfl _ _ 23 rfl (w4.heap.size + 1) 9 (.string ⟨#[]⟩) 16 Tryd.underlying23 infoStr rfl _ _ rfl HMA.out.ob A1.heap.size 1 (.string (b)) rfl (new_cell _ _ _) rfl L2.out L1.out HMA.out.sz ?_; intro v' w5 ho hg hb5 hor; rw [strs_snoc] at ho; obtain ⟨x', c', hv'⟩ := ho.len; rw [strs_len, List.length_append, List.length_singleton] at hv'; subst hv'; have HR := Lib.hid (HMA.out.bytset hg ho hor); have c1' := HR.out.1; have g1' := HR.out.2.1; have HB5 := Lib.hid hb5; clear ho hg hb5 hor c1 g1)
                    go_roundw
                    case rel => exact ⟨j + 1, _, _, vq, N, B ++ [b], Q, hlt, by go_num, by omega, by simp; omega, HGO, Lib.hid HR.out.2.2⟩
                    case measure => simp [intOf]; omega
                  | none =>
                    rw [he] at C
                    change Hid (∀ W, Calls _ _ _ W fun e w' => e = .returned (.tuple #[.string ⟨#[]⟩, .iface 26 (.int .i64 3)]) ∧ Below W.heap.size W w') at C
                    rw [go_byt_bad he] at hgo2
                    obtain rfl : Z = bad := by rw [← HG.out, ← hgo2]; rfl
                    clear he hgo2
                    go_wp2_with fail
                    refine (C.out _).mono ?_; rintro e A1 ⟨rfl, hB1⟩
                    have HM1 := HM.out.below hB1
                    have c1 := HM1.c2
                    have g1 := HM1.fz 2
                    have HMA := Lib.hid (HM1.alloc (.cells #[.string (⟨#[]⟩)] 9))
                    have L1 : Hid ((strs B).length + 1 ≤ 1000000000000) := Lib.hid (by rw [strs_len]; omega)
                    have L2 : Hid (((strs B).length + 1) * 16 ≤ 1000000000000) := Lib.hid (by rw [strs_len]; omega)
                    clear HM1 hB1
                    go_wp2_with (at_builtin; refine own_append1 rfl _ _ 23 rfl (w4.heap.size + 1) 9 (.string ⟨#[]⟩) 16 Tryd.underlying23 infoStr rfl _ _ rfl HMA.out.ob A1.heap.size 1 (.string (⟨#[]⟩)) rfl (new_cell _ _ _) rfl L2.out L1.out HMA.out.sz ?_; intro v' w5 ho hg hb5 hor; rw [strs_snoc] at ho; obtain ⟨x', c', hv'⟩ := ho.len; rw [strs_len, List.length_append, List.length_singleton] at hv'; subst hv'; have HR := Lib.hid (HMA.out.bytset hg ho hor); have c1' := HR.out.1; have g1' := HR.out.2.1; have HB5 := Lib.hid hb5; clear ho hg hb5 hor c1 g1; have k5 := HMA.out.bel.trans (HB5.out.mono (Nat.le_succ _)); have x0 := keepCell k5 HX.out.1; have x1 := keepCell k5 HX.out.2.1; have x2 := keepCell k5 HX.out.2.2.1; have x3 := keepCell k5 HX.out.2.2.2.1; have f0 := keepFree k5 HX.out.1 HX.out.2.2.2.2.1; have f1 := keepFree k5 HX.out.2.1 HX.out.2.2.2.2.2.1; have f2 := keepFree k5 HX.out.2.2.1 HX.out.2.2.2.2.2.2.1; have f3 := keepFree k5 HX.out.2.2.2.1 HX.out.2.2.2.2.2.2.2; clear k5)
                    refine bodyPost_ret (v := .tuple #[.agg #[.string ⟨#[]⟩, .slice none 0 0, .slice none 0 0, .slice none 0 0], .iface 26 (.int .i64 3)]) (by simp [results, Tryd.results5, go_sem, x0, x1, x2, x3]) rfl ?_
                    exact ⟨_, _, _, rfl, put4_nil _ _ _ _, put4_nil _ _ _ _, put4_nil _ _ _ _, put4_below (HB.out.trans (HR.out.2.2.bel.mono HB.out.size)) _ _ _ _⟩
                · have e1 : ((F[j].toNat : Int) == 110) = false := by rw [hb]; rfl
                  have e2 : ((F[j].toNat : Int) == 98) = false := by rw [hb]; rfl
                  have C := Lib.hid (fun W => path_all t hts W)
                  clear hb
                  obtain ⟨aq, pq, rfl⟩ := HM.out.oq.len
                  rw [i64s_len] at HM
                  cases he : pth t with
                  | some q =>
                    rw [he] at C
                    rw [go_way he] at hgo2
                    have HGO := Lib.hid hgo2
                    clear he hgo2
                    go_wp2_with fail
                    refine (C.out _).mono ?_; rintro e A1 ⟨⟨v, rfl, ho⟩, hB1⟩
                    obtain ⟨a5, p5, rfl⟩ := ho.len
                    rw [i64s_len] at ho ⊢
                    have HR := Lib.hid (HM.out.wayset (below_grown' hB1) (fun r e => by cases e) (ho.base HM.out.sz) (.inr (fun r e => (ho.lt r e).1)))
                    have c3 := HR.out.1
                    have g3 := HR.out.2.1
                    clear ho hB1
                    go_wp2_with fail
                    go_roundw
                    case rel => exact ⟨j + 1, _, _, _, N, B, q, hlt, by go_num, by omega, by omega, HGO, Lib.hid HR.out.2.2⟩
                    case measure => simp [intOf]; omega
                  | none =>
                    rw [he] at C
                    rw [go_way_bad he] at hgo2
                    obtain rfl : Z = bad := by rw [← HG.out, ← hgo2]; rfl
                    clear he hgo2
                    go_wp2_with fail
                    refine (C.out _).mono ?_; rintro e A1 ⟨rfl, hB1⟩
                    have HR := Lib.hid (HM.out.wayset (v' := .slice none 0 0) (Q' := []) (below_grown' hB1) (fun r e => by cases e) (own_nil _ _ _) (.inr (fun r e => by cases e)))
                    have c3 := HR.out.1
                    have g3 := HR.out.2.1
                    have k5 := HM.out.bel.trans (hB1.mono (by have := HM.out.sz; omega))
                    have x0 := keepCell k5 HX.out.1
                    have x1 := keepCell k5 HX.out.2.1
                    have x2 := keepCell k5 HX.out.2.2.1
                    have x3 := keepCell k5 HX.out.2.2.2.1
                    have f0 := keepFree k5 HX.out.1 HX.out.2.2.2.2.1
                    have f1 := keepFree k5 HX.out.2.1 HX.out.2.2.2.2.2.1
                    have f2 := keepFree k5 HX.out.2.2.1 HX.out.2.2.2.2.2.2.1
                    have f3 := keepFree k5 HX.out.2.2.2.1 HX.out.2.2.2.2.2.2.2
                    clear hB1 k5
                    go_wp2_with fail
                    refine bodyPost_ret (v := .tuple #[.agg #[.string ⟨#[]⟩, .slice none 0 0, .slice none 0 0, .slice none 0 0], .iface 26 (.int .i64 3)]) (by simp [results, Tryd.results5, go_sem, x0, x1, x2, x3]) rfl ?_
                    exact ⟨_, _, _, rfl, put4_nil _ _ _ _, put4_nil _ _ _ _, put4_nil _ _ _ _, put4_below (HB.out.trans (HR.out.2.2.bel.mono HB.out.size)) _ _ _ _⟩
              · obtain rfl : j = F.size := by omega
                have hgo2 := hgo.out
                rw [List.drop_eq_nil_of_le (Nat.le_of_eq hzH.out.symm), go_end] at hgo2
                obtain rfl : Z = ⟨0, x, N, B, Q⟩ := by rw [← HG.out, ← hgo2]; rfl
                obtain ⟨an, pn, rfl⟩ := HM.out.on.len
                obtain ⟨ab, pb, rfl⟩ := HM.out.ob.len
                obtain ⟨aq, pq, rfl⟩ := HM.out.oq.len
                rw [i64s_len, i64s_len, strs_len] at HM
                have c0 := HM.out.c0
                have c1 := HM.out.c1
                have c2 := HM.out.c2
                have c3 := HM.out.c3
                have k5 := HM.out.bel
                replace f0 := keepFree k5 x0 f0
                replace f1 := keepFree k5 x1 f1
                replace f2 := keepFree k5 x2 f2
                replace f3 := keepFree k5 x3 f3
                replace x0 := keepCell k5 x0
                replace x1 := keepCell k5 x1
                replace x2 := keepCell k5 x2
                replace x3 := keepCell k5 x3
                clear k5 hgo2 hgo
                go_wp2_with fail
                refine bodyPost_ret (v := .tuple #[.agg #[.string x, .slice an N.length pn, .slice ab B.length pb, .slice aq Q.length pq], .nilIface]) (by simp [results, Tryd.results5, go_sem, x0, x1, x2, x3]) rfl ?_
                have hWH : W.heap.size < w4.heap.size + 1 := by have := HB.out.size; rw [made_size] at this; omega
                exact ⟨_, _, _, rfl, put4_own HM.out.on hWH _ _ _ _, put4_own HM.out.ob hWH _ _ _ _, put4_own HM.out.oq hWH _ _ _ _, put4_below (HB.out.trans (HM.out.bel.mono HB.out.size)) _ _ _ _⟩
          · obtain rfl : Z = bad := HZ.out.symm.trans (cmd_len hne hf hl)
            have l1 : ((L : Int) != (ks.length : Int) + 1) = true := by rw [bne_iff_ne]; omega
            rw [← hz] at l1
            have hzH := Lib.hid hz
            have hLH := Lib.hid hL1
            have hlH := Lib.hid hl
            have l5 : (fs lp ks).size ≤ 3 := by rw [hz]; exact (frm_form hf).1
            clear hf hne hz hL hL1 hl
            go_wp2_with fail
            refine (C1.out _).mono ?_; rintro e w3 ⟨rfl, hb3⟩
            replace f0 := keepFree hb3 x0 f0
            replace f1 := keepFree hb3 x1 f1
            replace f2 := keepFree hb3 x2 f2
            replace f3 := keepFree hb3 x3 f3
            replace x0 := keepCell hb3 x0
            replace x1 := keepCell hb3 x1
            replace x2 := keepCell hb3 x2
            replace x3 := keepCell hb3 x3
            replace hx := keepCell hb3 hx
            replace HB := Lib.hid (HB.out.trans (hb3.mono HB.out.size))
            replace hcell := Lib.hid (fun j (h : j < (x :: r).length) => keepCell hb3 (hcell.out j h))
            replace hA2 := Nat.lt_of_lt_of_le hA2 hb3.size
            replace mW : ¬ W.heap.size = w3.heap.size := by have := HB.out.size; rw [made_size] at this; omega
            clear hb3
            go_wp2_with fail
            refine (C2.out _).mono ?_; rintro e w4 ⟨rfl, rfl⟩
            go_wp2_with fail
            refine bodyPost_ret (v := .tuple #[.agg #[.string ⟨#[]⟩, .slice none 0 0, .slice none 0 0, .slice none 0 0], .iface 26 (.int .i64 3)]) (by simp [results, Tryd.results5, go_sem, x0, x1, x2, x3]) rfl ?_
            exact ⟨_, _, _, rfl, put4_nil _ _ _ _, put4_nil _ _ _ _, put4_nil _ _ _ _, put4_below HB.out _ _ _ _⟩
    · have l3 : ((L : Int) == 1) = false := by
        rw [beq_eq_false_iff_ne]
        have : 0 < r.length := List.length_pos_iff.2 hr
        omega
      have hne : r = [] → nume x ≠ 0 := fun h => absurd h hr
      clear hr C1
      cases hf : frm x.toList with
      | none =>
        obtain rfl : Z = bad := HZ.out.symm.trans (cmd_none hne hf)
        rw [hf] at C2
        change Hid (∀ W, Calls _ _ _ W fun e w' => e = .returned (.tuple #[.string ⟨#[]⟩, .bool false]) ∧ w' = W) at C2
        clear hf hne hL hL1
        go_wp2_with fail
        refine (C2.out _).mono ?_; rintro e w4 ⟨rfl, rfl⟩
        go_wp2_with fail
        refine bodyPost_ret (v := .tuple #[.agg #[.string ⟨#[]⟩, .slice none 0 0, .slice none 0 0, .slice none 0 0], .iface 26 (.int .i64 3)]) (by simp [results, Tryd.results5, go_sem, x0, x1, x2, x3]) rfl ?_
        exact ⟨_, _, _, rfl, put4_nil _ _ _ _, put4_nil _ _ _ _, put4_nil _ _ _ _, put4_below HB.out _ _ _ _⟩
      | some ks =>
        rw [hf] at C2
        change Hid (∀ W, Calls _ _ _ W fun e w' => e = .returned (.tuple #[.string (fs lp ks), .bool true]) ∧ w' = W) at C2
        have hz := fs_size lp ks
        by_cases hl : ks.length = r.length
        · have HG : Hid (fin x (go ks r [] [] []) = Z) := Lib.hid ((cmd_fin hne hf hl).symm.trans HZ.out)
          have HK := Lib.hid (frm_form hf)
          have l1 : ((L : Int) != (ks.length : Int) + 1) = false := by rw [bne_eq_false_iff_eq]; omega
          rw [← hz] at l1
          have hzH := Lib.hid hz
          have hLH := Lib.hid hL1
          have hlH := Lib.hid hl
          have l5 : (fs lp ks).size ≤ 3 := by rw [hz]; exact (frm_form hf).1
          clear hf hne hz hL hL1 hl
          obtain ⟨F, hF⟩ : ∃ F, fs lp ks = F := ⟨_, rfl⟩
          have HFb : Hid (∀ j (h : j < ks.length), byteAt F j = (lp ks[j]).toNat) := Lib.hid (fun j h => by rw [← hF]; exact fs_byte lp ks j h)
          rw [hF] at l1 hzH C2 l5
          clear hF
          go_wp2_with fail
          refine (C2.out _).mono ?_; rintro e w4 ⟨rfl, rfl⟩
          go_wp2_with fail
          have HM0 := Lib.hid (cm_new w4 x)
          clear hx C2
          go_loopw [61] (fun i wr => ∃ (j : Nat) (vn vb vq : Value) (N : List Int) (B : List ByteArray) (Q : List Int), j ≤ F.size ∧ i = .int .i64 (j : Int) ∧ N.length ≤ j ∧ B.length ≤ j ∧ Hid (go (ks.drop j) (r.drop j) N B Q = go ks r [] [] []) ∧ Hid (CM w4 w4.heap.size (w4.heap.size + 1) none x vn vb vq N B Q wr)) (fun i _ => F.size - (intOf i).toNat)
          case atStart => exact ⟨0, _, _, _, [], [], [], Nat.zero_le _, rfl, Nat.le_refl _, Nat.le_refl _, Lib.hid rfl, HM0⟩
          case round =>
            obtain ⟨j, vn, vb, vq, N, B, Q, hj, rfl, hN, hBl, hgo, HM⟩ := hrel
            clear HM0
            by_cases hlt : j < F.size
            · have hjk : j < ks.length := by rw [← hzH.out]; exact hlt
              have hjr : j < r.length := hlH.out ▸ hjk
              have hd1 := List.drop_eq_getElem_cons hjk
              have hd2 := List.drop_eq_getElem_cons hjr
              have hfb := HFb.out j hjk
              have hk3 := HK.out.2.1 ks[j] (List.getElem_mem hjk)
              have hct : wr.cell? ⟨A, j + 1, none⟩ = some (.string r[j]) := keepCell HM.out.bel (hcell.out (j + 1) (Nat.succ_lt_succ hjr))
              have hts : r[j].size ≤ 1000 := hwx.out _ (List.mem_cons_of_mem _ (List.getElem_mem hjr))
              have hgo2 := hgo.out
              rw [hd1, hd2] at hgo2
              generalize ks[j] = k at *
              generalize r[j] = t at *
              have hb := byteAt_eq F j hlt
              rw [hfb] at hb
              have i1 : (0 : Int) ≤ (j : Int) := by omega
              have i2 : (j : Int) < (F.size : Int) := by omega
              have i3 : (0 : Int) ≤ (j : Int) + 1 := by omega
              have i4 : (j : Int) + 1 < (L : Int) := by have := hLH.out; have := hlH.out; omega
              have j3 : j ≤ 3 := by omega
              obtain ⟨an, pn, rfl⟩ := HM.out.on.len
              obtain ⟨ab, pb, rfl⟩ := HM.out.ob.len
              rw [i64s_len, strs_len] at HM
              have HX := Lib.hid (show _ ∧ _ ∧ _ ∧ _ ∧ _ ∧ _ ∧ _ ∧ _ from ⟨x0, x1, x2, x3, f0, f1, f2, f3⟩)
              clear hd1 hd2 hfb hgo x0 x1 x2 x3 f0 f1 f2 f3
              rcases (show k = 0 ∨ k = 1 ∨ k = 2 by omega) with rfl | rfl | rfl
              · have e1 : ((F[j].toNat : Int) == 110) = true := by rw [hb]; rfl
                have C : Hid (∀ W, Calls Tryd.prog 18 #[.string t] W fun e w' => e = .returned (.tuple #[.int .i64 (num t), ev (nume t)]) ∧ Below W.heap.size W w') := Lib.hid (fun W => number_any t hts W)
                clear hb
                by_cases he : nume t = 0
                · rw [he] at C
                  have hev : ev 0 = .nilIface := rfl
                  rw [hev] at C
                  rw [go_num he] at hgo2
                  have HGO := Lib.hid hgo2
                  clear hev he hgo2
                  go_wp2_with fail
                  refine (C.out _).mono ?_; rintro e A1 ⟨rfl, hB1⟩
                  have HM1 := HM.out.below hB1
                  have c1 := HM1.c1
                  have g1 := HM1.fz 1
                  have HMA := Lib.hid (HM1.alloc (.cells #[.int .i64 (num t)] 3))
                  have L1 : Hid ((i64s N).length + 1 ≤ 1000000000000) := Lib.hid (by rw [i64s_len]; omega)
                  have L2 : Hid (((i64s N).length + 1) * 8 ≤ 1000000000000) := Lib.hid (by rw [i64s_len]; omega)
                  clear HM1 hB1
                  go_wp2_with (at_builtin; refine own_append1 rfl _ _ 22 rfl (w4.heap.size + 1) 3 (.int .i64 0) 8 Tryd.underlying22 infoInt rfl _ _ rfl HMA.out.on A1.heap.size 1 (.int .i64 (num t)) rfl (new_cell _ _ _) rfl L2.out L1.out HMA.out.sz ?_; intro v' w5 ho hg hb5 hor; rw [i64s_snoc] at ho; obtain ⟨x', c', hv'⟩ := ho.len; rw [i64s_len, List.length_append, List.length_singleton] at hv'; subst hv'; have HR := Lib.hid (HMA.out.numset hg ho hor); have c1' := HR.out.1; have g1' := HR.out.2.1; have HB5 := Lib.hid hb5; clear ho hg hb5 hor c1 g1)
                  go_roundw
                  case rel => exact ⟨j + 1, _, _, vq, N ++ [num t], B, Q, hlt, by go_num, by simp; omega, by omega, HGO, Lib.hid HR.out.2.2⟩
                  case measure => simp [intOf]; omega
                · have hev : ev (nume t) = .iface 26 (.int .i64 (nume t)) := if_neg he
                  rw [hev] at C
                  rw [go_num_bad he] at hgo2
                  obtain rfl : Z = bad := by rw [← HG.out, ← hgo2]; rfl
                  clear hev he hgo2
                  go_wp2_with fail
                  refine (C.out _).mono ?_; rintro e A1 ⟨rfl, hB1⟩
                  have HM1 := HM.out.below hB1
                  have c1 := HM1.c1
                  have g1 := HM1.fz 1
                  have HMA := Lib.hid (HM1.alloc (.cells #[.int .i64 (num t)] 3))
                  have L1 : Hid ((i64s N).length + 1 ≤ 1000000000000) := Lib.hid (by rw [i64s_len]; omega)
                  have L2 : Hid (((i64s N).length + 1) * 8 ≤ 1000000000000) := Lib.hid (by rw [i64s_len]; omega)
                  clear HM1 hB1
                  go_wp2_with (at_builtin; refine own_append1 rfl _ _ 22 rfl (w4.heap.size + 1) 3 (.int .i64 0) 8 Tryd.underlying22 infoInt rfl _ _ rfl HMA.out.on A1.heap.size 1 (.int .i64 (num t)) rfl (new_cell _ _ _) rfl L2.out L1.out HMA.out.sz ?_; intro v' w5 ho hg hb5 hor; rw [i64s_snoc] at ho; obtain ⟨x', c', hv'⟩ := ho.len; rw [i64s_len, List.length_append, List.length_singleton] at hv'; subst hv'; have HR := Lib.hid (HMA.out.numset hg ho hor); have c1' := HR.out.1; have g1' := HR.out.2.1; have HB5 := Lib.hid hb5; clear ho hg hb5 hor c1 g1; have k5 := HMA.out.bel.trans (HB5.out.mono (Nat.le_succ _)); have x0 := keepCell k5 HX.out.1; have x1 := keepCell k5 HX.out.2.1; have x2 := keepCell k5 HX.out.2.2.1; have x3 := keepCell k5 HX.out.2.2.2.1; have f0 := keepFree k5 HX.out.1 HX.out.2.2.2.2.1; have f1 := keepFree k5 HX.out.2.1 HX.out.2.2.2.2.2.1; have f2 := keepFree k5 HX.out.2.2.1 HX.out.2.2.2.2.2.2.1; have f3 := keepFree k5 HX.out.2.2.2.1 HX.out.2.2.2.2.2.2.2; clear k5)
                  refine bodyPost_ret (v := .tuple #[.agg #[.string ⟨#[]⟩, .slice none 0 0, .slice none 0 0, .slice none 0 0], .iface 26 (.int .i64 3)]) (by simp [results, Tryd.results5, go_sem, x0, x1, x2, x3]) rfl ?_
                  exact ⟨_, _, _, rfl, put4_nil _ _ _ _, put4_nil _ _ _ _, put4_nil _ _ _ _, put4_below (HB.out.trans (HR.out.2.2.bel.mono HB.out.size)) _ _ _ _⟩
              · have e1 : ((F[j].toNat : Int) == 110) = false := by rw [hb]; rfl
                have e2 : ((F[j].toNat : Int) == 98) = true := by rw [hb]; rfl
                have C := Lib.hid (fun W => bytes_any t hts W)
                clear hb
                cases he : byt t with
                | some b =>
                  rw [he] at C
                  change Hid (∀ W, Calls _ _ _ W fun e w' => e = .returned (.tuple #[.string b, .nilIface]) ∧ Below W.heap.size W w') at C
                  rw [go_byt he] at hgo2
                  have HGO := Lib.hid hgo2
                  clear he hgo2
                  go_wp2_with fail
                  refine (C.out _).mono ?_; rintro e A1 ⟨rfl, hB1⟩
                  have HM1 := HM.out.below hB1
                  have c1 := HM1.c2
                  have g1 := HM1.fz 2
                  have HMA := Lib.hid (HM1.alloc (.cells #[.string (b)] 9))
                  have L1 : Hid ((strs B).length + 1 ≤ 1000000000000) := Lib.hid (by rw [strs_len]; omega)
                  have L2 : Hid (((strs B).length + 1) * 16 ≤ 1000000000000) := Lib.hid (by rw [strs_len]; omega)
                  clear HM1 hB1
                  go_wp2_with (at_builtin; refine own_append1 rfl _ _ 23 rfl (w4.heap.size + 1) 9 (.string ⟨#[]⟩) 16 Tryd.underlying23 infoStr rfl _ _ rfl HMA.out.ob A1.heap.size 1 (.string (b)) rfl (new_cell _ _ _) rfl L2.out L1.out HMA.out.sz ?_; intro v' w5 ho hg hb5 hor; rw [strs_snoc] at ho; obtain ⟨x', c', hv'⟩ := ho.len; rw [strs_len, List.length_append, List.length_singleton] at hv'; subst hv'; have HR := Lib.hid (HMA.out.bytset hg ho hor); have c1' := HR.out.1; have g1' := HR.out.2.1; have HB5 := Lib.hid hb5; clear ho hg hb5 hor c1 g1)
                  go_roundw
                  case rel => exact ⟨j + 1, _, _, vq, N, B ++ [b], Q, hlt, by go_num, by omega, by simp; omega, HGO, Lib.hid HR.out.2.2⟩
                  case measure => simp [intOf]; omega
                | none =>
                  rw [he] at C
                  change Hid (∀ W, Calls _ _ _ W fun e w' => e = .returned (.tuple #[.string ⟨#[]⟩, .iface 26 (.int .i64 3)]) ∧ Below W.heap.size W w') at C
                  rw [go_byt_bad he] at hgo2
                  obtain rfl : Z = bad := by rw [← HG.out, ← hgo2]; rfl
                  clear he hgo2
                  go_wp2_with fail
                  refine (C.out _).mono ?_; rintro e A1 ⟨rfl, hB1⟩
                  have HM1 := HM.out.below hB1
                  have c1 := HM1.c2
                  have g1 := HM1.fz 2
                  have HMA := Lib.hid (HM1.alloc (.cells #[.string (⟨#[]⟩)] 9))
                  have L1 : Hid ((strs B).length + 1 ≤ 1000000000000) := Lib.hid (by rw [strs_len]; omega)
                  have L2 : Hid (((strs B).length + 1) * 16 ≤ 1000000000000) := Lib.hid (by rw [strs_len]; omega)
                  clear HM1 hB1
                  go_wp2_with (at_builtin; refine own_append1 rfl _ _ 23 rfl (w4.heap.size + 1) 9 (.string ⟨#[]⟩) 16 Tryd.underlying23 infoStr rfl _ _ rfl HMA.out.ob A1.heap.size 1 (.string (⟨#[]⟩)) rfl (new_cell _ _ _) rfl L2.out L1.out HMA.out.sz ?_; intro v' w5 ho hg hb5 hor; rw [strs_snoc] at ho; obtain ⟨x', c', hv'⟩ := ho.len; rw [strs_len, List.length_append, List.length_singleton] at hv'; subst hv'; have HR := Lib.hid (HMA.out.bytset hg ho hor); have c1' := HR.out.1; have g1' := HR.out.2.1; have HB5 := Lib.hid hb5; clear ho hg hb5 hor c1 g1; have k5 := HMA.out.bel.trans (HB5.out.mono (Nat.le_succ _)); have x0 := keepCell k5 HX.out.1; have x1 := keepCell k5 HX.out.2.1; have x2 := keepCell k5 HX.out.2.2.1; have x3 := keepCell k5 HX.out.2.2.2.1; have f0 := keepFree k5 HX.out.1 HX.out.2.2.2.2.1; have f1 := keepFree k5 HX.out.2.1 HX.out.2.2.2.2.2.1; have f2 := keepFree k5 HX.out.2.2.1 HX.out.2.2.2.2.2.2.1; have f3 := keepFree k5 HX.out.2.2.2.1 HX.out.2.2.2.2.2.2.2; clear k5)
                  refine bodyPost_ret (v := .tuple #[.agg #[.string ⟨#[]⟩, .slice none 0 0, .slice none 0 0, .slice none 0 0], .iface 26 (.int .i64 3)]) (by simp [results, Tryd.results5, go_sem, x0, x1, x2, x3]) rfl ?_
                  exact ⟨_, _, _, rfl, put4_nil _ _ _ _, put4_nil _ _ _ _, put4_nil _ _ _ _, put4_below (HB.out.trans (HR.out.2.2.bel.mono HB.out.size)) _ _ _ _⟩
              · have e1 : ((F[j].toNat : Int) == 110) = false := by rw [hb]; rfl
                have e2 : ((F[j].toNat : Int) == 98) = false := by rw [hb]; rfl
                have C := Lib.hid (fun W => path_all t hts W)
                clear hb
                obtain ⟨aq, pq, rfl⟩ := HM.out.oq.len
                rw [i64s_len] at HM
                cases he : pth t with
                | some q =>
                  rw [he] at C
                  rw [go_way he] at hgo2
                  have HGO := Lib.hid hgo2
                  clear he hgo2
                  go_wp2_with fail
                  refine (C.out _).mono ?_; rintro e A1 ⟨⟨v, rfl, ho⟩, hB1⟩
                  obtain ⟨a5, p5, rfl⟩ := ho.len
                  rw [i64s_len] at ho ⊢
                  have HR := Lib.hid (HM.out.wayset (below_grown' hB1) (fun r e => by cases e) (ho.base HM.out.sz) (.inr (fun r e => (ho.lt r e).1)))
                  have c3 := HR.out.1
                  have g3 := HR.out.2.1
                  clear ho hB1
                  go_wp2_with fail
                  go_roundw
                  case rel => exact ⟨j + 1, _, _, _, N, B, q, hlt, by go_num, by omega, by omega, HGO, Lib.hid HR.out.2.2⟩
                  case measure => simp [intOf]; omega
                | none =>
                  rw [he] at C
                  rw [go_way_bad he] at hgo2
                  obtain rfl : Z = bad := by rw [← HG.out, ← hgo2]; rfl
                  clear he hgo2
                  go_wp2_with fail
                  refine (C.out _).mono ?_; rintro e A1 ⟨rfl, hB1⟩
                  have HR := Lib.hid (HM.out.wayset (v' := .slice none 0 0) (Q' := []) (below_grown' hB1) (fun r e => by cases e) (own_nil _ _ _) (.inr (fun r e => by cases e)))
                  have c3 := HR.out.1
                  have g3 := HR.out.2.1
                  have k5 := HM.out.bel.trans (hB1.mono (by have := HM.out.sz; omega))
                  have x0 := keepCell k5 HX.out.1
                  have x1 := keepCell k5 HX.out.2.1
                  have x2 := keepCell k5 HX.out.2.2.1
                  have x3 := keepCell k5 HX.out.2.2.2.1
                  have f0 := keepFree k5 HX.out.1 HX.out.2.2.2.2.1
                  have f1 := keepFree k5 HX.out.2.1 HX.out.2.2.2.2.2.1
                  have f2 := keepFree k5 HX.out.2.2.1 HX.out.2.2.2.2.2.2.1
                  have f3 := keepFree k5 HX.out.2.2.2.1 HX.out.2.2.2.2.2.2.2
                  clear hB1 k5
                  go_wp2_with fail
                  refine bodyPost_ret (v := .tuple #[.agg #[.string ⟨#[]⟩, .slice none 0 0, .slice none 0 0, .slice none 0 0], .iface 26 (.int .i64 3)]) (by simp [results, Tryd.results5, go_sem, x0, x1, x2, x3]) rfl ?_
                  exact ⟨_, _, _, rfl, put4_nil _ _ _ _, put4_nil _ _ _ _, put4_nil _ _ _ _, put4_below (HB.out.trans (HR.out.2.2.bel.mono HB.out.size)) _ _ _ _⟩
            · obtain rfl : j = F.size := by omega
              have hgo2 := hgo.out
              rw [List.drop_eq_nil_of_le (Nat.le_of_eq hzH.out.symm), go_end] at hgo2
              obtain rfl : Z = ⟨0, x, N, B, Q⟩ := by rw [← HG.out, ← hgo2]; rfl
              obtain ⟨an, pn, rfl⟩ := HM.out.on.len
              obtain ⟨ab, pb, rfl⟩ := HM.out.ob.len
              obtain ⟨aq, pq, rfl⟩ := HM.out.oq.len
              rw [i64s_len, i64s_len, strs_len] at HM
              have c0 := HM.out.c0
              have c1 := HM.out.c1
              have c2 := HM.out.c2
              have c3 := HM.out.c3
              have k5 := HM.out.bel
              replace f0 := keepFree k5 x0 f0
              replace f1 := keepFree k5 x1 f1
              replace f2 := keepFree k5 x2 f2
              replace f3 := keepFree k5 x3 f3
              replace x0 := keepCell k5 x0
              replace x1 := keepCell k5 x1
              replace x2 := keepCell k5 x2
              replace x3 := keepCell k5 x3
              clear k5 hgo2 hgo
              go_wp2_with fail
              refine bodyPost_ret (v := .tuple #[.agg #[.string x, .slice an N.length pn, .slice ab B.length pb, .slice aq Q.length pq], .nilIface]) (by simp [results, Tryd.results5, go_sem, x0, x1, x2, x3]) rfl ?_
              have hWH : W.heap.size < w4.heap.size + 1 := by have := HB.out.size; rw [made_size] at this; omega
              exact ⟨_, _, _, rfl, put4_own HM.out.on hWH _ _ _ _, put4_own HM.out.ob hWH _ _ _ _, put4_own HM.out.oq hWH _ _ _ _, put4_below (HB.out.trans (HM.out.bel.mono HB.out.size)) _ _ _ _⟩
        · obtain rfl : Z = bad := HZ.out.symm.trans (cmd_len hne hf hl)
          have l1 : ((L : Int) != (ks.length : Int) + 1) = true := by rw [bne_iff_ne]; omega
          rw [← hz] at l1
          have hzH := Lib.hid hz
          have hLH := Lib.hid hL1
          have hlH := Lib.hid hl
          have l5 : (fs lp ks).size ≤ 3 := by rw [hz]; exact (frm_form hf).1
          clear hf hne hz hL hL1 hl
          go_wp2_with fail
          refine (C2.out _).mono ?_; rintro e w4 ⟨rfl, rfl⟩
          go_wp2_with fail
          refine bodyPost_ret (v := .tuple #[.agg #[.string ⟨#[]⟩, .slice none 0 0, .slice none 0 0, .slice none 0 0], .iface 26 (.int .i64 3)]) (by simp [results, Tryd.results5, go_sem, x0, x1, x2, x3]) rfl ?_
          exact ⟨_, _, _, rfl, put4_nil _ _ _ _, put4_nil _ _ _ _, put4_nil _ _ _ _, put4_below HB.out _ _ _ _⟩
end Go.Proofs.YtehmnohkfchljaaDoor.Ex
