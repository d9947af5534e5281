/-
  PROVED HERE: the contract of the document's XxdLoad. Conditions: as each theorem states.
-/
import Derived.Test.YtnbpninnanjemaaDoorXlC
import Derived.Test.YtnbpninnanjemaaDoorChr
import Derived.Test.YtnbpninnanjemaaDoorTac
namespace Go.Proofs.YtnbpninnanjemaaDoor.Xl
open Go.RowKit Lz Dig Go.Maps
theorem keyedI : Keyed Tryd.prog 3 := int_keyed Tryd.underlying3
theorem zeroStr (w : World) : (zeroValue 9).run Tryd.prog w = .ok (.string ⟨#[]⟩) w := by kernel_rfl
theorem fr_kept {W w w' : World} (h : Chr.Fr W w) (hg : w.grownBy w' (some (W.heap.size + 1))) (hs : W.heap.size < w.heap.size) : Chr.Fr W w' := by
  obtain ⟨hB, ⟨x0, h0⟩, ⟨x1, h1⟩, g0, g1⟩ := h
  have e : w'.heap[W.heap.size]? = w.heap[W.heap.size]? := hg.block _ hs (by simp)
  exact ⟨hB.grown hg hB.size (fun k hk => by injection hk with hk; omega), ⟨x0, (World.cell?_of_block (a := ⟨W.heap.size, 0, none⟩) e).trans h0⟩, ⟨x1, (World.cell?_of_block (a := ⟨W.heap.size, 1, none⟩) e).trans h1⟩, (World.frozen?_of_block (a := ⟨W.heap.size, 0, none⟩) e).trans g0, (World.frozen?_of_block (a := ⟨W.heap.size, 1, none⟩) e).trans g1⟩
/-- The document's memory: the result's cells, the map, the lines. -/
structure DW (W : World) (g : Nat) (L : List ByteArray) (n : Nat) (D : DataW Unit) (out : List UInt8) (w : World) : Prop where
  fr : Chr.Fr W w
  map : w.ownsMap Tryd.prog 3 (plainElem Tryd.prog 9) (W.heap.size + 1) n D
  rd : RD D out
  row : ∀ j (h : j < L.length), w.cell? ⟨g, j, none⟩ = some (.string L[j])
  gt : W.heap.size + 1 < g
section
variable {W w w' : World} {g n : Nat} {L : List ByteArray} {D : DataW Unit} {out : List UInt8}
theorem DW.below (h : DW W g L n D out w) (hb : Below w.heap.size w w') : DW W g L n D out w' :=
  ⟨h.fr.below hb, h.map.kept (row := none) ⟨hb.os, hb.tape, hb.output, hb.size, fun k hk _ => hb.block k hk⟩ (by simp), h.rd, fun j hj => keepCell hb (h.row j hj), h.gt⟩
theorem DW.drew (h : DW W g L n D out w) : DW W g L n D out w.drew := ⟨h.fr.drew, h.map, h.rd, h.row, h.gt⟩
theorem DW.drewN (h : DW W g L n D out w) (k : Nat) : DW W g L n D out (w.drewN k) := h.below (below_drewN (Below.refl _ _) k)
/-- The map is put to; nothing else turns. -/
theorem DW.put_ (h : DW W g L n D out w) {n' : Nat} {D' : DataW Unit} {out' : List UInt8} (hm : w'.ownsMap Tryd.prog 3 (plainElem Tryd.prog 9) (W.heap.size + 1) n' D') (hg : w.grownBy w' (some (W.heap.size + 1))) (hr : RD D' out') : DW W g L n' D' out' w' :=
  ⟨fr_kept h.fr hg (by have := h.map.lt; omega), hm, hr, fun j hj => by
    have hlt := World.block_lt_of_cell? _ _ (h.row j hj)
    have e : w'.heap[g]? = w.heap[g]? := hg.block _ hlt (by have := h.gt; intro e; injection e with e; omega)
    exact (World.cell?_of_block (a := ⟨g, j, none⟩) e).trans (h.row j hj), h.gt⟩
theorem DW.byte {acc : List UInt8} {a n2 : Nat} {D2 : DataW Unit} {w0 w w' : World} {b2 : UInt8} (_h0 : DW W g L n2 D2 (put out a acc) w0) (h : DW W g L n2 D2 (put out a acc) w)
    (h2 : w'.ownsMap Tryd.prog 3 (plainElem Tryd.prog 9) (W.heap.size + 1) (n2 + 1) (D2.put (.int .i64 ((a + acc.length : Nat) : Int)) (.lit (.string [b2]))) ∧ w.grownBy w' (some (W.heap.size + 1))) :
    DW W g L (n2 + 1) (D2.put (.int .i64 ((a + acc.length : Nat) : Int)) (.lit (.string [b2]))) (put out a (acc ++ [b2])) w' :=
  h.put_ h2.1 h2.2 (rd_step h.map.isMap h.rd b2)
end
/-- m[k] = v, at a step of a region that draws its order. -/
theorem upon_mapUpdate_own {H : Type} {P : Program} {w : World} {o : Oper} {a : Act} {K : Act → World → Prop} {Q : Exit → Act → World → Prop} (t : TypeId) (k e : TypeId) (Kk : Keyed P k) (R : Value → Option (DataW H × List MemPlace)) (ht : P.underlying t = some (.map k e)) (b n : Nat) (D : DataW H)
    (hown : w.ownsMap P k R b n D) (hn : n < maxLen) (key : Value) (val : Value) (kl : Lit) (hkey : keyOf P k key = some kl) (d : DataW H) (ps : List MemPlace) (hR : R val = some (d, ps))
    (hK : ∀ w', w'.ownsMap P k R b (n + 1) (D.put kl d) ∧ w.grownBy w' (some b) → K (a.put o.dst undef) w') :
    Oper.upon P o a K Q ((Sem.run P (Instr.mapUpdate t (.map (some b)) key val) w).andThen fun _ w' => .ok Next.skip w') := by
  obtain ⟨w', hrun, h2, h3⟩ := hown.update Kk ht hn hkey hR
  have e : (Sem.run P (Instr.mapUpdate t (.map (some b)) key val) w) = .ok () w' := hrun
  rw [e]
  exact hK _ ⟨h2, h3⟩
theorem col_lt2 (l : ByteArray) (h : 0 ≤ col l) : (col l).toNat < l.size := by
  obtain ⟨o, ho⟩ := Int.eq_ofNat_of_zero_le h
  have := (Lib.indexByte_some (l := l.data.toList) (c := 58) (o := o) ho).1
  have h2 : o < l.data.toList.length := (List.getElem?_eq_some_iff.1 this).1
  rw [ho]
  exact h2
theorem tot_ge : ∀ L : List ByteArray, L.length ≤ tot L
  | [] => Nat.zero_le _
  | l :: r => by have := tot_ge r; simp only [tot, List.length_cons]; omega
theorem strOf {H : Type} {l : List UInt8} {c : ByteArray} (h : (DataW.lit (H := H) (.string l)) = .lit (.string c.data.toList)) : c = ⟨l.toArray⟩ := by
  injection h with h
  injection h with h
  rw [h]
theorem app_take {out : List UInt8} {i : Nat} (h : i < out.length) : ((⟨(out.take i).toArray⟩ : ByteArray) ++ ⟨#[out.getD i 0]⟩) = ⟨(out.take (i + 1)).toArray⟩ := by
  apply ByteArray.ext
  rw [ByteArray.data_append]
  rw [List.take_add_one, List.getElem?_eq_getElem h]
  simp [h]
def LdP (Z : Int × Int × List UInt8) (w : World) (e : Ending) (w' : World) : Prop := e = .returned (.tuple #[.string ⟨Z.2.2.toArray⟩, .agg #[.int .i64 Z.1, .int .i64 Z.2.1]]) ∧ Below w.heap.size w w'
set_option maxRecDepth 100000 in
set_option maxHeartbeats 8000000 in
theorem docLoad_any (s : ByteArray) (hs : s.size ≤ 1500) (W : World) (m : Int) (hm : W.cell? ⟨0, 0, none⟩ = some (.int .i64 m)) :
    Calls Tryd.prog 10 #[.string s] W (LdP (ldl (LS s) 0 []) W) := by
  have hmm := @run_makeMap Tryd.prog
  obtain ⟨Z, hZZ⟩ : ∃ Z, ldl (LS s) 0 [] = Z := ⟨_, rfl⟩
  have hZ0 := Lib.hid hZZ
  rw [hZZ]
  have hTot := LS_tot s
  have hLen := LS_len s
  obtain ⟨L, hL⟩ : ∃ L, LS s = L := ⟨_, rfl⟩
  have hB1 : Below W.heap.size W ((W.alloc (.cells #[.int .i64 0, .int .i64 0] 32)).alloc (.map #[] 0)) := ((Below.refl _ _).alloc (Nat.le_refl _) _).alloc (by simp) _
  have hsz1 : ((W.alloc (.cells #[.int .i64 0, .int .i64 0] 32)).alloc (.map #[] 0)).heap.size = W.heap.size + 1 + 1 := by rw [World.size_alloc, World.size_alloc]
  have SPL := Lib.hid (Tryd.strings_Split s nl m ((W.alloc (.cells #[.int .i64 0, .int .i64 0] 32)).alloc (.map #[] 0)) (by omega) (keepCell hB1 hm) (by decide))
  rw [← hLen, hsz1] at SPL
  change Hid (Calls _ _ _ _ fun e w' => _ ∧ w' = World.alloc _ (.cells ((LS s).map Value.string).toArray _)) at SPL
  rw [hL] at SPL hTot hLen hZ0
  have D0 : Hid (DW W (W.heap.size + 1 + 1) L 0 (.map []) [] (((W.alloc (.cells #[.int .i64 0, .int .i64 0] 32)).alloc (.map #[] 0)).alloc (.cells (L.map Value.string).toArray 9))) := Lib.hid (by
    refine ⟨((Chr.fr_new W _ _ _).below ((Below.refl _ _).alloc (Nat.le_refl _) _)).below ((Below.refl _ _).alloc (Nat.le_refl _) _), ?_, rd_start, fun j hj => ?_, by omega⟩
    · have h := World.ownsMap_made (H := Unit) (W.alloc (.cells #[.int .i64 0, .int .i64 0] 32)) Tryd.prog 3 (plainElem Tryd.prog 9)
      rw [World.size_alloc] at h
      exact h.alloc _
    · rw [World.cell?_alloc_at _ _ _ _ hsz1.symm]
      simp [hj])
  have hsm : ∀ j (h : j < L.length), L[j].size ≤ s.size := fun j h => by
    have h1 := tot_drop L j h
    have h2 : tot (L.drop j) ≤ tot L := by
      clear h1 hTot hLen SPL D0 hZ0 hL
      induction L generalizing j with
      | nil => simp at h
      | cons x r ih =>
        cases j with
        | zero => exact Nat.le_refl _
        | succ j =>
          have h3 : j < r.length := by simpa using h
          have := ih j h3
          simp only [List.drop_succ_cons, tot]
          omega
    omega
  have HSM := Lib.hid hsm
  have hLb : L.length ≤ 1501 := by have := tot_ge L; omega
  clear hL hB1 hsz1 hm hLen hZZ hsm
  have hT0 := Lib.hid hTot
  clear hTot
  go_enter Tryd.func10, Tryd.ntmps10
  go_wp2_with fail
  clear hmm
  refine SPL.out.mono ?_; rintro e w2 ⟨rfl, rfl⟩
  generalize ((W.alloc (.cells #[.int .i64 0, .int .i64 0] 32)).alloc (.map #[] 0)).alloc (.cells (L.map Value.string).toArray 9) = w2 at *
  obtain ⟨g, hg⟩ : ∃ g, g = W.heap.size + 1 + 1 := ⟨_, rfl⟩
  rw [← hg] at D0 ⊢
  clear hg SPL
  go_wp2_with fail
  go_loopw [5, 6, 21] (fun ee bb kk wr => ∃ (k b n : Nat) (D : DataW Unit) (out : List UInt8), k ≤ L.length ∧ out.length ≤ 4000 ∧ n ≤ b ∧ kk = .int .i64 (k : Int) ∧ bb = .int .i64 (b : Int) ∧ ee = .int .i64 (out.length : Int) ∧ Hid (b + tot (L.drop k) = s.size + 1) ∧ Hid (ldl (L.drop k) b out = Z) ∧ Hid (DW W g L n D out wr)) (fun _ _ kk _ => L.length - (intOf kk).toNat)
  case atStart => exact ⟨0, 0, 0, _, [], Nat.zero_le _, by decide, Nat.le_refl _, rfl, rfl, rfl, Lib.hid (by rw [Nat.zero_add]; exact hT0.out), hZ0, D0⟩
  case round =>
    obtain ⟨k, b, n, D, out, hk, hol, hnb, rfl, rfl, rfl, hT, hZ, hD0⟩ := hrel
    clear hT0 hZ0 D0
    by_cases hkl : k < L.length
    · have hcell := hD0.out.row k hkl
      have hls := HSM.out k hkl
      have hTd := tot_drop L k hkl
      have HDR := Lib.hid (List.drop_eq_getElem_cons hkl)
      have k0 : (0 : Int) ≤ (k : Int) := by omega
      have k1 : (k : Int) < (L.length : Int) := by omega
      generalize L[k] = l at hcell hls hTd HDR
      have hT := Lib.hid (show b + (l.size + 1 + tot (L.drop (k + 1))) = s.size + 1 by rw [← hTd]; exact hT.out)
      have hbs : b + l.size ≤ s.size := by have := hT.out; omega
      have CI : Hid (∀ W, Calls Tryd.prog 21 #[.string l, .string ⟨#[58]⟩] W fun e w' => e = .returned (.int .i64 (col l)) ∧ W = w') := Lib.hid (fun W => (Tryd.strings_Index_one l 58 W).mono fun e w' ⟨h1, h2⟩ => ⟨h1, h2.symm⟩)
      clear hTd
      by_cases hc0 : col l < 0
      · obtain ⟨S, hSS⟩ : ∃ S, scan l 0 0 [] = S := ⟨_, rfl⟩
        have hS0 := Lib.hid hSS
        have HL : Hid (ln l = (S.1, none, S.2)) := Lib.hid (by unfold ln; rw [if_pos hc0, hSS])
        have hFl : 0 ≤ l.size := Nat.zero_le _
        have hcm : col l = -1 := by have := Lib.indexByte_ge l.data.toList 58; unfold col at hc0 ⊢; omega
        rw [hcm] at CI
        obtain ⟨a, ha⟩ : ∃ a, a = out.length := ⟨_, rfl⟩
        have HA := Lib.hid ha
        have ha4 : a ≤ 4000 := by omega
        clear hSS hc0 hcm
        go_wp2_with fail
        refine (CI.out _).mono ?_; rintro e w' ⟨rfl, rfl⟩
        go_wp2_with fail
        rw [← ha]
        clear ha hcell

        have HGD : Hid ((none : Option Nat).getD out.length = a) := Lib.hid HA.out.symm
        have hDa : Hid (DW W g L n D (put out a []) wr) := Lib.hid (by rw [put_nil]; exact hD0.out)
        clear hD0
        go_loopw [5, 9, 10] (fun ee aa ii wr => ∃ (i : Nat) (acc : List UInt8) (n2 : Nat) (D2 : DataW Unit), i ≤ l.size ∧ 0 ≤ i ∧ ii = .int .i64 (i : Int) ∧ aa = .int .i64 ((a + acc.length : Nat) : Int) ∧ ee = .int .i64 ((put out a acc).length : Int) ∧ acc.length ≤ i ∧ n2 ≤ b + i ∧ Hid (scan l 0 i acc = S) ∧ Hid (DW W g L n2 D2 (put out a acc) wr)) (fun _ _ ii _ => l.size - (intOf ii).toNat)
        case atStart => exact ⟨0, [], n, D, hFl, Nat.le_refl _, by first | rfl | go_num, by first | rfl | go_num | simp, by first | (rw [put_nil, HA.out]; done) | (rw [put_nil]; done), Nat.zero_le _, by omega, hS0, hDa⟩
        case round =>
          obtain ⟨i, acc, n2, D2, hi, hfi, rfl, rfl, rfl, hal, hn2, hS, hDW⟩ := hrel
          by_cases hlt : i < l.size
          · have i1 : (0 : Int) ≤ (i : Int) := by omega
            have i2 : (i : Int) < (l.size : Int) := by omega
            obtain ⟨c, hc⟩ : ∃ c : Nat, (l[i]'hlt).toNat = c := ⟨_, rfl⟩
            have hcu : (ub l i).toNat = c := by rw [← hc, ub_eq l i hlt]
            have hc2 : c < 256 := by rw [← hcu]; exact ub_lt _ _
            by_cases h32 : c = 32
            · have e1 : ((c : Int) == 32) = true := by rw [beq_iff_eq]; omega
              have hu32 : ub l i = 32 := UInt8.toNat_inj.1 (by rw [hcu, h32]; rfl)
              by_cases htwo : 0 < i ∧ i + 1 < l.size ∧ ub l (i + 1) = 32
              · have hSe := Lib.hid ((scan_two hlt hu32 htwo acc).symm.trans hS.out)
                obtain ⟨t1, t2, t3⟩ := htwo
                have hd : ((l[i + 1]'t2).toNat) = 32 := by rw [ub_eq l _ t2, t3]; rfl
                have d2 : (i : Int) + 1 < (l.size : Int) := by omega
                have d3 : 0 < (i : Int) := by omega
                clear hu32 t3 hcu
                have HLN : Hid (ln l = (none, none, acc)) := Lib.hid (by rw [HL.out, ← hSe.out])
                have HLL := Lib.hid (ldl_line (r := L.drop (k + 1)) (b := b) HLN.out HGD.out hol)
                by_cases hfull : 4000 < (put out a acc).length
                · have hfI : (4000 : Int) < ((put out a acc).length : Int) := by omega
                  have hZ2 : Hid (Z = (4, -1, [])) := Lib.hid (by
                    have h := hZ.out
                    rw [HDR.out] at h
                    rw [← h]
                    exact HLL.out.1 hfull)
                  obtain ⟨hB, ⟨x0, c0⟩, ⟨x1, c1⟩, f0, f1⟩ := hDW.out.fr
                  have HF := Lib.hid hDW.out.fr
                  clear hB hZ hS hSe hfull
                  generalize (put out a acc).length = pl at *
                  go_wp2_with fail
                  refine bodyPost_ret (v := .tuple #[.string ⟨#[]⟩, .agg #[.int .i64 4, .int .i64 (-1)]]) (by simp [results, Tryd.results10, go_sem, c0, c1]) rfl ?_
                  exact ⟨by first | (rw [hZ2.out]; done) | (rw [hZ2.out]; rfl), HF.out.stored _ _⟩
                · have hfI : ((put out a acc).length : Int) ≤ 4000 := by omega
                  have hZ2 : Hid (ldl (L.drop (k + 1)) (b + l.size + 1) (put out a acc) = Z) := Lib.hid (by
                    have h := hZ.out
                    rw [HDR.out] at h
                    rw [← h]
                    exact (HLL.out.2 (by omega)).symm)
                  have hb2 : Hid (b + l.size + 1 + tot (L.drop (k + 1)) = s.size + 1) := Lib.hid (by have := hT.out; omega)
                  have hol2 : (put out a acc).length ≤ 4000 := by omega
                  have hn3 : n2 ≤ b + l.size + 1 := by omega
                  clear hZ hS hSe hfull HLL
                  generalize put out a acc = O2 at *
                  go_wp2_with fail
                  go_roundw
                  case rel => first | exact ⟨k + 1, b + l.size + 1, n2, D2, O2, by omega, hol2, hn3, by go_num, by go_num, by first | rfl | go_num, hb2, hZ2, hDW⟩ | ((repeat apply Exists.intro); exact ⟨⟨k + 1, b + l.size + 1, n2, D2, O2, by omega, hol2, hn3, by go_num, by go_num, by first | rfl | go_num, hb2, hZ2, hDW⟩, rfl⟩)
                  case measure => first | (simp [intOf]; done) | (simp [intOf]; omega)
              · have hSe := Lib.hid ((scan_blank hlt hu32 htwo acc).symm.trans hS.out)
                have hcase : i ≤ 0 ∨ (0 < i ∧ l.size ≤ i + 1) ∨ (0 < i ∧ i + 1 < l.size ∧ ub l (i + 1) ≠ 32) := by
                  rcases Nat.lt_or_ge 0 i with q0 | q0
                  · rcases Nat.lt_or_ge (i + 1) l.size with q | q
                    · exact .inr (.inr ⟨q0, q, fun q2 => htwo ⟨q0, q, q2⟩⟩)
                    · exact .inr (.inl ⟨q0, q⟩)
                  · exact .inl q0
                clear htwo hu32 hcu hS
                rcases hcase with t1 | ⟨t1, t2⟩ | ⟨t1, t2, t3⟩
                · have d2 : (i : Int) ≤ 0 := by omega
                  go_wp2_with fail
                  go_roundw
                  case rel => first | exact ⟨i + 1, acc, n2, D2, by omega, by omega, by go_num, rfl, rfl, by omega, by omega, hSe, hDW⟩ | ((repeat apply Exists.intro); exact ⟨⟨i + 1, acc, n2, D2, by omega, by omega, by go_num, rfl, rfl, by omega, by omega, hSe, hDW⟩, rfl⟩)
                  case measure => first | (simp [intOf]; done) | (simp [intOf]; omega)
                · have d2 : 0 < (i : Int) := by omega
                  have d3 : (l.size : Int) ≤ (i : Int) + 1 := by omega
                  go_wp2_with fail
                  go_roundw
                  case rel => first | exact ⟨i + 1, acc, n2, D2, by omega, by omega, by go_num, rfl, rfl, by omega, by omega, hSe, hDW⟩ | ((repeat apply Exists.intro); exact ⟨⟨i + 1, acc, n2, D2, by omega, by omega, by go_num, rfl, rfl, by omega, by omega, hSe, hDW⟩, rfl⟩)
                  case measure => first | (simp [intOf]; done) | (simp [intOf]; omega)
                · have d2 : 0 < (i : Int) := by omega
                  have d3 : (i : Int) + 1 < (l.size : Int) := by omega
                  obtain ⟨c', hc'⟩ : ∃ c' : Nat, (l[i + 1]'t2).toNat = c' := ⟨_, rfl⟩
                  have hn : c' ≠ 32 := fun h => t3 (UInt8.toNat_inj.1 (by rw [← ub_eq l _ t2, hc', h]; rfl))
                  have e2 : ((c' : Int) == 32) = false := by rw [beq_eq_false_iff_ne]; omega
                  clear t3 hn
                  go_wp2_with fail
                  go_roundw
                  case rel => first | exact ⟨i + 1, acc, n2, D2, by omega, by omega, by go_num, rfl, rfl, by omega, by omega, hSe, hDW⟩ | ((repeat apply Exists.intro); exact ⟨⟨i + 1, acc, n2, D2, by omega, by omega, by go_num, rfl, rfl, by omega, by omega, hSe, hDW⟩, rfl⟩)
                  case measure => first | (simp [intOf]; done) | (simp [intOf]; omega)
            · have e1 : ((c : Int) == 32) = false := by rw [beq_eq_false_iff_ne]; omega
              have hu32 : ub l i ≠ 32 := fun h => h32 (by rw [← hcu, h]; rfl)
              have D1 := Lib.hid (fun W => docDigit_any (c : Int) (by omega) (by omega) W)
              have hdg : dig (c : Int) = dg l i := by unfold dg; rw [hcu]
              rw [hdg] at D1
              have hb1 := dg_bounds l i
              clear hdg hcu
              by_cases hnext : i + 1 < l.size
              · have d2 : (i : Int) + 1 < (l.size : Int) := by omega
                obtain ⟨c', hc'⟩ : ∃ c' : Nat, (l[i + 1]'hnext).toNat = c' := ⟨_, rfl⟩
                have hcu' : (ub l (i + 1)).toNat = c' := by rw [← hc', ub_eq l _ hnext]
                have hc2' : c' < 256 := by rw [← hcu']; exact ub_lt _ _
                have D2' := Lib.hid (fun W => docDigit_any (c' : Int) (by omega) (by omega) W)
                have hdg' : dig (c' : Int) = dg l (i + 1) := by unfold dg; rw [hcu']
                rw [hdg'] at D2'
                have hb2 := dg_bounds l (i + 1)
                clear hdg' hcu'
                by_cases hbad : dg l i < 0 ∨ dg l (i + 1) < 0
                · have hSe := Lib.hid ((scan_bad hlt hu32 (.inr hbad) acc).symm.trans hS.out)
                  have hZ2 : Hid (Z = (3, ((b + i : Nat) : Int), [])) := Lib.hid (by
                    have h := hZ.out
                    rw [HDR.out] at h
                    rw [← h]
                    exact ldl_bad (by rw [HL.out, ← hSe.out]))
                  have hbi : (b : Int) + (i : Int) = ((b + i : Nat) : Int) := by omega
                  have HBI := Lib.hid hbi
                  clear hu32 hS hbi
                  generalize dg l i = x at *
                  generalize dg l (i + 1) = y at *
                  by_cases hx : x < 0
                  · go_wp2_with fail
                    refine (D1.out _).mono ?_; rintro e w1 ⟨rfl, hB1⟩
                    have HD1 := Lib.hid (hDW.out.below hB1)
                    clear hB1
                    obtain ⟨hB, ⟨x0, c0⟩, ⟨x1, c1⟩, f0, f1⟩ := HD1.out.fr
                    clear hB
                    go_wp2_with fail
                    refine bodyPost_ret (v := .tuple #[.string ⟨#[]⟩, .agg #[.int .i64 3, .int .i64 ((b : Int) + (i : Int))]]) (by simp [results, Tryd.results10, go_sem, c0, c1]) rfl ?_
                    exact ⟨by first | (rw [hZ2.out, HBI.out]; done) | (rw [hZ2.out, HBI.out]; rfl), HD1.out.fr.stored _ _⟩
                  · have hx' : 0 ≤ x := by omega
                    have hy : y < 0 := by omega
                    clear hbad
                    go_wp2_with fail
                    refine (D1.out _).mono ?_; rintro e w1 ⟨rfl, hB1⟩
                    have HD1 := Lib.hid (hDW.out.below hB1)
                    clear hB1
                    go_wp2_with fail
                    refine (D2'.out _).mono ?_; rintro e w2 ⟨rfl, hB2⟩
                    have HD2 := Lib.hid (HD1.out.below hB2)
                    clear hB2
                    obtain ⟨hB, ⟨x0, c0⟩, ⟨x1, c1⟩, f0, f1⟩ := HD2.out.fr
                    clear hB
                    go_wp2_with fail
                    refine bodyPost_ret (v := .tuple #[.string ⟨#[]⟩, .agg #[.int .i64 3, .int .i64 ((b : Int) + (i : Int))]]) (by simp [results, Tryd.results10, go_sem, c0, c1]) rfl ?_
                    exact ⟨by first | (rw [hZ2.out, HBI.out]; done) | (rw [hZ2.out, HBI.out]; rfl), HD2.out.fr.stored _ _⟩
                · have hSe := Lib.hid ((scan_byte hlt hu32 (by omega) acc).symm.trans hS.out)
                  obtain ⟨x, hx⟩ := Int.eq_ofNat_of_zero_le (show 0 ≤ dg l i by omega)
                  obtain ⟨y, hy⟩ := Int.eq_ofNat_of_zero_le (show 0 ≤ dg l (i + 1) by omega)
                  have hx16 : x ≤ 15 := by omega
                  have hy16 : y ≤ 15 := by omega
                  have hb : by2 l i = UInt8.ofNat ((((x : Int) * 16 + (y : Int)).toNat) % 256) := by
                    unfold by2; rw [hx, hy]
                    exact congrArg UInt8.ofNat (by simp only [Int.toNat_natCast]; omega)
                  have HBY := Lib.hid hb
                  rw [hx] at D1
                  rw [hy] at D2'
                  have HUP := Lib.hid (fun (w w' : World) h1 h2 => DW.byte (w := w) (w' := w') (b2 := by2 l i) hDW.out h1 h2)
                  generalize by2 l i = b2 at *
                  obtain ⟨m2, hm2⟩ : ∃ m2, m2 = acc ++ [b2] := ⟨_, rfl⟩
                  have hml : m2.length = acc.length + 1 := by rw [hm2]; simp
                  have HML := Lib.hid hml
                  have hpm : Hid ((put out a m2).length = max (put out a acc).length (a + acc.length + 1)) := Lib.hid (by rw [hm2]; exact put_snoc_len _ _ _ _)
                  have HM := Lib.hid hm2
                  rw [← hm2] at hSe
                  have hkey := keyOf_int_mk (P := Tryd.prog) Tryd.underlying3 (a := ((a + acc.length : Nat) : Int)) (WalkArith.wf_i64 (by omega))
                  rw [Int.natCast_add] at hkey
                  have C := Lib.hid (fun (m : Int) (hm : 0 ≤ m) W => Chr.char_any m hm W)
                  have w1 : IntKind.i64.wrap ((x : Int) * 16) = (x : Int) * 16 := IntWalk.i64_in _ (by omega)
                  have w2 : IntKind.i64.wrap ((x : Int) * 16 + (y : Int)) = (x : Int) * 16 + (y : Int) := IntWalk.i64_in _ (by omega)
                  have w3 : IntKind.u64.wrap ((x : Int) * 16 + (y : Int)) = (x : Int) * 16 + (y : Int) := by rw [IntKind.wrap_u64]; omega
                  have w4 : IntKind.i64.wrap ((i : Int) + 1) = (i : Int) + 1 := IntWalk.i64_in _ (by omega)
                  have w5 : ((i : Int) + 1).toNat = i + 1 := by omega
                  have w6 : (0 : Int) ≤ (i : Int) + 1 := by omega
                  clear hx hy hu32 hS hbad hb hm2 hml hb1 hb2
                  go_wp2_with fail
                  refine (D1.out _).mono ?_; rintro e w1 ⟨rfl, hB1⟩
                  have HD1 := Lib.hid (hDW.out.below hB1)
                  clear hB1
                  go_wp2_with fail
                  refine (D2'.out _).mono ?_; rintro e w2 ⟨rfl, hB2⟩
                  have HD2 := Lib.hid (HD1.out.below hB2)
                  clear hB2
                  go_wp2_with fail
                  go_region_with (first
                    | (go_at_call 23; (first | (with_reducible refine (D1.out _).mono ?_) | (with_reducible refine (D2'.out _).mono ?_)); rintro e w4 ⟨rfl, hB4⟩; have HD2 := Lib.hid (by first | exact HD2.out.below hB4 | exact HD2.out.drew.below hB4); clear hB4)
                    | (go_at_call 14; refine (C.out _ (by omega) _).mono ?_; rintro e w4 ⟨rfl, hB4⟩; have HD2 := Lib.hid (by first | exact HD2.out.below hB4 | exact HD2.out.drew.below hB4); clear hB4)
                    | (refine upon_mapUpdate_own 49 3 9 keyedI (plainElem Tryd.prog 9) Tryd.underlying49 (W.heap.size + 1) n2 D2 HD2.out.map (by unfold maxLen; omega) _ _ _ hkey _ [] (plainElem_string Tryd.underlying9 (show (1 : Nat) ≤ maxLen by unfold maxLen; omega)) ?_; rintro w5 hup))
                  all_goals
                    have HDW2 : Hid (DW W g L (n2 + 1) (D2.put (.int .i64 ((a + acc.length : Nat) : Int)) (.lit (.string [b2]))) (put out a m2) w5) := Lib.hid (by rw [HM.out]; exact HUP.out _ _ HD2.out ⟨by rw [HBY.out, Int.natCast_add]; exact hup.1, hup.2⟩)
                    clear hup
                    have hme : ((put out a m2).length : Int) = max ((put out a acc).length : Int) ((a : Int) + (acc.length : Int) + 1) := by rw [hpm.out]; omega
                    go_wp2_with fail
                    go_roundw
                    case rel => first | exact ⟨i + 2, m2, n2 + 1, _, by omega, by omega, by go_num, by first | go_num | (rw [HML.out]; go_num), by first | (rw [hme]; done) | (rw [hme]; go_num) | (simp only [hme, Value.int.injEq, true_and]; omega), by rw [HML.out]; omega, by omega, hSe, HDW2⟩ | ((repeat apply Exists.intro); exact ⟨⟨i + 2, m2, n2 + 1, _, by omega, by omega, by go_num, by first | go_num | (rw [HML.out]; go_num), by first | (rw [hme]; done) | (rw [hme]; go_num) | (simp only [hme, Value.int.injEq, true_and]; omega), by rw [HML.out]; omega, by omega, hSe, HDW2⟩, rfl⟩)
                    case measure => first | (simp [intOf]; done) | (simp [intOf]; omega)
              · have d2 : (l.size : Int) ≤ (i : Int) + 1 := by omega
                have hSe := Lib.hid ((scan_bad hlt hu32 (.inl (by omega)) acc).symm.trans hS.out)
                have hZ2 : Hid (Z = (3, ((b + i : Nat) : Int), [])) := Lib.hid (by
                  have h := hZ.out
                  rw [HDR.out] at h
                  rw [← h]
                  exact ldl_bad (by rw [HL.out, ← hSe.out]))
                have hbi : (b : Int) + (i : Int) = ((b + i : Nat) : Int) := by omega
                have HBI := Lib.hid hbi
                obtain ⟨hB, ⟨x0, c0⟩, ⟨x1, c1⟩, f0, f1⟩ := hDW.out.fr
                clear hB hu32 hS hbi
                go_wp2_with fail
                refine bodyPost_ret (v := .tuple #[.string ⟨#[]⟩, .agg #[.int .i64 3, .int .i64 ((b : Int) + (i : Int))]]) (by simp [results, Tryd.results10, go_sem, c0, c1]) rfl ?_
                exact ⟨by first | (rw [hZ2.out, HBI.out]; done) | (rw [hZ2.out, HBI.out]; rfl), hDW.out.fr.stored _ _⟩
          · have hSe := Lib.hid ((scan_end (by omega) acc).symm.trans hS.out)
            have kd : decide (i < l.size) = false := decide_eq_false hlt
            have kd2 : decide ((i : Int) < (l.size : Int)) = false := decide_eq_false (by omega)
            have HLN : Hid (ln l = (none, none, acc)) := Lib.hid (by rw [HL.out, ← hSe.out])
            have HLL := Lib.hid (ldl_line (r := L.drop (k + 1)) (b := b) HLN.out HGD.out hol)
            by_cases hfull : 4000 < (put out a acc).length
            · have hfI : (4000 : Int) < ((put out a acc).length : Int) := by omega
              have hZ2 : Hid (Z = (4, -1, [])) := Lib.hid (by
                have h := hZ.out
                rw [HDR.out] at h
                rw [← h]
                exact HLL.out.1 hfull)
              obtain ⟨hB, ⟨x0, c0⟩, ⟨x1, c1⟩, f0, f1⟩ := hDW.out.fr
              have HF := Lib.hid hDW.out.fr
              clear hB hZ hS hSe hfull
              generalize (put out a acc).length = pl at *
              go_wp2_with fail
              refine bodyPost_ret (v := .tuple #[.string ⟨#[]⟩, .agg #[.int .i64 4, .int .i64 (-1)]]) (by simp [results, Tryd.results10, go_sem, c0, c1]) rfl ?_
              exact ⟨by first | (rw [hZ2.out]; done) | (rw [hZ2.out]; rfl), HF.out.stored _ _⟩
            · have hfI : ((put out a acc).length : Int) ≤ 4000 := by omega
              have hZ2 : Hid (ldl (L.drop (k + 1)) (b + l.size + 1) (put out a acc) = Z) := Lib.hid (by
                have h := hZ.out
                rw [HDR.out] at h
                rw [← h]
                exact (HLL.out.2 (by omega)).symm)
              have hb2 : Hid (b + l.size + 1 + tot (L.drop (k + 1)) = s.size + 1) := Lib.hid (by have := hT.out; omega)
              have hol2 : (put out a acc).length ≤ 4000 := by omega
              have hn3 : n2 ≤ b + l.size + 1 := by omega
              clear hZ hS hSe hfull HLL
              generalize put out a acc = O2 at *
              go_wp2_with fail
              go_roundw
              case rel => first | exact ⟨k + 1, b + l.size + 1, n2, D2, O2, by omega, hol2, hn3, by go_num, by go_num, by first | rfl | go_num, hb2, hZ2, hDW⟩ | ((repeat apply Exists.intro); exact ⟨⟨k + 1, b + l.size + 1, n2, D2, O2, by omega, hol2, hn3, by go_num, by go_num, by first | rfl | go_num, hb2, hZ2, hDW⟩, rfl⟩)
              case measure => first | (simp [intOf]; done) | (simp [intOf]; omega)
      · have hlt0 := col_lt2 l (by omega)
        obtain ⟨q, hq⟩ := Int.eq_ofNat_of_zero_le (show 0 ≤ col l by omega)
        have CP := Lib.hid (fun W => docParse_yes (hd l) 16 ⟨by omega, by omega⟩ (by unfold hd; rw [ByteArray.size_extract]; omega) W)
        have HA1 : Hid (¬ (pe (hd l) 16 ≠ 0 ∨ 4000 < pv (hd l) 16) → ∀ f, f = (col l).toNat + 1 → ∀ S, scan l f f [] = S → ln l = (S.1, some (pv (hd l) 16), S.2)) := Lib.hid (fun h f hf S hs => by unfold ln; rw [if_neg hc0, if_neg h, ← hf, hs])
        have HB1 : Hid ((pe (hd l) 16 ≠ 0 ∨ 4000 < pv (hd l) 16) → ln l = (some 0, none, [])) := Lib.hid (fun h => by unfold ln; rw [if_neg hc0, if_pos h])
        have hhd : hd l = l.extract 0 q := by unfold hd; rw [hq]; rfl
        rw [hq] at CI HA1 hlt0
        have hql : q < l.size := hlt0
        generalize pv (hd l) 16 = a at *
        generalize pe (hd l) 16 = c0 at *
        rw [hhd] at CP
        have q0 : (0 : Int) ≤ (q : Int) := by omega
        have q1 : (q : Int) ≤ (l.size : Int) := by omega
        clear hq hhd hc0 hlt0
        by_cases hbad : c0 ≠ 0 ∨ 4000 < a
        · have hZ2 : Hid (Z = (3, (b : Int), [])) := Lib.hid (by
            have h := hZ.out
            rw [HDR.out] at h
            rw [← h, ldl_bad (p := 0) (by rw [HB1.out hbad])]
            rfl)
          have hcase : (¬ c0 = 0) ∨ (c0 = 0 ∧ 4000 < a) := by
            by_cases e : c0 = 0
            · exact .inr ⟨e, by omega⟩
            · exact .inl e
          clear hbad
          rcases hcase with e1 | ⟨rfl, e1⟩
          · go_wp2_with fail
            refine (CI.out _).mono ?_; rintro e w' ⟨rfl, rfl⟩
            go_wp2_with fail
            refine (CP.out _).mono ?_; rintro e w1 ⟨rfl, hB1⟩
            have HD1 := Lib.hid (hD0.out.below hB1)
            clear hB1 hcell
            obtain ⟨hB, ⟨x0, c0⟩, ⟨x1, c1⟩, f0, f1⟩ := HD1.out.fr
            clear hB
            go_wp2_with fail
            refine bodyPost_ret (v := .tuple #[.string ⟨#[]⟩, .agg #[.int .i64 3, .int .i64 (b : Int)]]) (by simp [results, Tryd.results10, go_sem, c0, c1]) rfl ?_
            exact ⟨by first | (rw [hZ2.out]; done) | (rw [hZ2.out]; rfl), HD1.out.fr.stored _ _⟩
          · have e2 : (4000 : Int) < (a : Int) := by omega
            go_wp2_with fail
            refine (CI.out _).mono ?_; rintro e w' ⟨rfl, rfl⟩
            go_wp2_with fail
            refine (CP.out _).mono ?_; rintro e w1 ⟨rfl, hB1⟩
            have HD1 := Lib.hid (hD0.out.below hB1)
            clear hB1 hcell
            obtain ⟨hB, ⟨x0, c0⟩, ⟨x1, c1⟩, f0, f1⟩ := HD1.out.fr
            clear hB
            go_wp2_with fail
            refine bodyPost_ret (v := .tuple #[.string ⟨#[]⟩, .agg #[.int .i64 3, .int .i64 (b : Int)]]) (by simp [results, Tryd.results10, go_sem, c0, c1]) rfl ?_
            exact ⟨by first | (rw [hZ2.out]; done) | (rw [hZ2.out]; rfl), HD1.out.fr.stored _ _⟩
        · have hc00 : c0 = 0 := by omega
          subst hc00
          have ha4 : a ≤ 4000 := by omega
          have e2 : (a : Int) ≤ 4000 := by omega
          obtain ⟨f, hf⟩ : ∃ f, f = q + 1 := ⟨_, rfl⟩
          obtain ⟨S, hSS⟩ : ∃ S, scan l f f [] = S := ⟨_, rfl⟩
          have hS0 := Lib.hid hSS
          have HL : Hid (ln l = (S.1, some a, S.2)) := Lib.hid (HA1.out (by omega) f (by rw [hf]; rfl) S hSS)
          have hFl : f ≤ l.size := by omega
          have hfI : (q : Int) + 1 = (f : Int) := by omega
          have HGD : Hid ((some a : Option Nat).getD out.length = a) := Lib.hid rfl
          clear hbad HA1 HB1 hSS hf
          go_wp2_with fail
          refine (CI.out _).mono ?_; rintro e w' ⟨rfl, rfl⟩
          go_wp2_with fail
          refine (CP.out _).mono ?_; rintro e w1 ⟨rfl, hB1⟩
          have hD0 := Lib.hid (hD0.out.below hB1)
          clear hB1 hcell
          go_wp2_with fail
          clear hfI
          generalize w1 = wr at *
          have hDa : Hid (DW W g L n D (put out a []) wr) := Lib.hid (by rw [put_nil]; exact hD0.out)
          clear hD0
          go_loopw [5, 9, 10] (fun ee aa ii wr => ∃ (i : Nat) (acc : List UInt8) (n2 : Nat) (D2 : DataW Unit), i ≤ l.size ∧ f ≤ i ∧ ii = .int .i64 (i : Int) ∧ aa = .int .i64 ((a + acc.length : Nat) : Int) ∧ ee = .int .i64 ((put out a acc).length : Int) ∧ acc.length ≤ i ∧ n2 ≤ b + i ∧ Hid (scan l f i acc = S) ∧ Hid (DW W g L n2 D2 (put out a acc) wr)) (fun _ _ ii _ => l.size - (intOf ii).toNat)
          case atStart => exact ⟨f, [], n, D, hFl, Nat.le_refl _, by first | rfl | go_num, by first | rfl | go_num | simp, by first | (rw [put_nil, HA.out]; done) | (rw [put_nil]; done), Nat.zero_le _, by omega, hS0, hDa⟩
          case round =>
            obtain ⟨i, acc, n2, D2, hi, hfi, rfl, rfl, rfl, hal, hn2, hS, hDW⟩ := hrel
            by_cases hlt : i < l.size
            · have i1 : (0 : Int) ≤ (i : Int) := by omega
              have i2 : (i : Int) < (l.size : Int) := by omega
              obtain ⟨c, hc⟩ : ∃ c : Nat, (l[i]'hlt).toNat = c := ⟨_, rfl⟩
              have hcu : (ub l i).toNat = c := by rw [← hc, ub_eq l i hlt]
              have hc2 : c < 256 := by rw [← hcu]; exact ub_lt _ _
              by_cases h32 : c = 32
              · have e1 : ((c : Int) == 32) = true := by rw [beq_iff_eq]; omega
                have hu32 : ub l i = 32 := UInt8.toNat_inj.1 (by rw [hcu, h32]; rfl)
                by_cases htwo : f < i ∧ i + 1 < l.size ∧ ub l (i + 1) = 32
                · have hSe := Lib.hid ((scan_two hlt hu32 htwo acc).symm.trans hS.out)
                  obtain ⟨t1, t2, t3⟩ := htwo
                  have hd : ((l[i + 1]'t2).toNat) = 32 := by rw [ub_eq l _ t2, t3]; rfl
                  have d2 : (i : Int) + 1 < (l.size : Int) := by omega
                  have d3 : (f : Int) < (i : Int) := by omega
                  clear hu32 t3 hcu
                  have HLN : Hid (ln l = (none, (some a), acc)) := Lib.hid (by rw [HL.out, ← hSe.out])
                  have HLL := Lib.hid (ldl_line (r := L.drop (k + 1)) (b := b) HLN.out HGD.out hol)
                  by_cases hfull : 4000 < (put out a acc).length
                  · have hfI : (4000 : Int) < ((put out a acc).length : Int) := by omega
                    have hZ2 : Hid (Z = (4, -1, [])) := Lib.hid (by
                      have h := hZ.out
                      rw [HDR.out] at h
                      rw [← h]
                      exact HLL.out.1 hfull)
                    obtain ⟨hB, ⟨x0, c0⟩, ⟨x1, c1⟩, f0, f1⟩ := hDW.out.fr
                    have HF := Lib.hid hDW.out.fr
                    clear hB hZ hS hSe hfull
                    generalize (put out a acc).length = pl at *
                    go_wp2_with fail
                    refine bodyPost_ret (v := .tuple #[.string ⟨#[]⟩, .agg #[.int .i64 4, .int .i64 (-1)]]) (by simp [results, Tryd.results10, go_sem, c0, c1]) rfl ?_
                    exact ⟨by first | (rw [hZ2.out]; done) | (rw [hZ2.out]; rfl), HF.out.stored _ _⟩
                  · have hfI : ((put out a acc).length : Int) ≤ 4000 := by omega
                    have hZ2 : Hid (ldl (L.drop (k + 1)) (b + l.size + 1) (put out a acc) = Z) := Lib.hid (by
                      have h := hZ.out
                      rw [HDR.out] at h
                      rw [← h]
                      exact (HLL.out.2 (by omega)).symm)
                    have hb2 : Hid (b + l.size + 1 + tot (L.drop (k + 1)) = s.size + 1) := Lib.hid (by have := hT.out; omega)
                    have hol2 : (put out a acc).length ≤ 4000 := by omega
                    have hn3 : n2 ≤ b + l.size + 1 := by omega
                    clear hZ hS hSe hfull HLL
                    generalize put out a acc = O2 at *
                    go_wp2_with fail
                    go_roundw
                    case rel => first | exact ⟨k + 1, b + l.size + 1, n2, D2, O2, by omega, hol2, hn3, by go_num, by go_num, by first | rfl | go_num, hb2, hZ2, hDW⟩ | ((repeat apply Exists.intro); exact ⟨⟨k + 1, b + l.size + 1, n2, D2, O2, by omega, hol2, hn3, by go_num, by go_num, by first | rfl | go_num, hb2, hZ2, hDW⟩, rfl⟩)
                    case measure => first | (simp [intOf]; done) | (simp [intOf]; omega)
                · have hSe := Lib.hid ((scan_blank hlt hu32 htwo acc).symm.trans hS.out)
                  have hcase : i ≤ f ∨ (f < i ∧ l.size ≤ i + 1) ∨ (f < i ∧ i + 1 < l.size ∧ ub l (i + 1) ≠ 32) := by
                    rcases Nat.lt_or_ge f i with q0 | q0
                    · rcases Nat.lt_or_ge (i + 1) l.size with q | q
                      · exact .inr (.inr ⟨q0, q, fun q2 => htwo ⟨q0, q, q2⟩⟩)
                      · exact .inr (.inl ⟨q0, q⟩)
                    · exact .inl q0
                  clear htwo hu32 hcu hS
                  rcases hcase with t1 | ⟨t1, t2⟩ | ⟨t1, t2, t3⟩
                  · have d2 : (i : Int) ≤ (f : Int) := by omega
                    go_wp2_with fail
                    go_roundw
                    case rel => first | exact ⟨i + 1, acc, n2, D2, by omega, by omega, by go_num, rfl, rfl, by omega, by omega, hSe, hDW⟩ | ((repeat apply Exists.intro); exact ⟨⟨i + 1, acc, n2, D2, by omega, by omega, by go_num, rfl, rfl, by omega, by omega, hSe, hDW⟩, rfl⟩)
                    case measure => first | (simp [intOf]; done) | (simp [intOf]; omega)
                  · have d2 : (f : Int) < (i : Int) := by omega
                    have d3 : (l.size : Int) ≤ (i : Int) + 1 := by omega
                    go_wp2_with fail
                    go_roundw
                    case rel => first | exact ⟨i + 1, acc, n2, D2, by omega, by omega, by go_num, rfl, rfl, by omega, by omega, hSe, hDW⟩ | ((repeat apply Exists.intro); exact ⟨⟨i + 1, acc, n2, D2, by omega, by omega, by go_num, rfl, rfl, by omega, by omega, hSe, hDW⟩, rfl⟩)
                    case measure => first | (simp [intOf]; done) | (simp [intOf]; omega)
                  · have d2 : (f : Int) < (i : Int) := by omega
                    have d3 : (i : Int) + 1 < (l.size : Int) := by omega
                    obtain ⟨c', hc'⟩ : ∃ c' : Nat, (l[i + 1]'t2).toNat = c' := ⟨_, rfl⟩
                    have hn : c' ≠ 32 := fun h => t3 (UInt8.toNat_inj.1 (by rw [← ub_eq l _ t2, hc', h]; rfl))
                    have e2 : ((c' : Int) == 32) = false := by rw [beq_eq_false_iff_ne]; omega
                    clear t3 hn
                    go_wp2_with fail
                    go_roundw
                    case rel => first | exact ⟨i + 1, acc, n2, D2, by omega, by omega, by go_num, rfl, rfl, by omega, by omega, hSe, hDW⟩ | ((repeat apply Exists.intro); exact ⟨⟨i + 1, acc, n2, D2, by omega, by omega, by go_num, rfl, rfl, by omega, by omega, hSe, hDW⟩, rfl⟩)
                    case measure => first | (simp [intOf]; done) | (simp [intOf]; omega)
              · have e1 : ((c : Int) == 32) = false := by rw [beq_eq_false_iff_ne]; omega
                have hu32 : ub l i ≠ 32 := fun h => h32 (by rw [← hcu, h]; rfl)
                have D1 := Lib.hid (fun W => docDigit_any (c : Int) (by omega) (by omega) W)
                have hdg : dig (c : Int) = dg l i := by unfold dg; rw [hcu]
                rw [hdg] at D1
                have hb1 := dg_bounds l i
                clear hdg hcu
                by_cases hnext : i + 1 < l.size
                · have d2 : (i : Int) + 1 < (l.size : Int) := by omega
                  obtain ⟨c', hc'⟩ : ∃ c' : Nat, (l[i + 1]'hnext).toNat = c' := ⟨_, rfl⟩
                  have hcu' : (ub l (i + 1)).toNat = c' := by rw [← hc', ub_eq l _ hnext]
                  have hc2' : c' < 256 := by rw [← hcu']; exact ub_lt _ _
                  have D2' := Lib.hid (fun W => docDigit_any (c' : Int) (by omega) (by omega) W)
                  have hdg' : dig (c' : Int) = dg l (i + 1) := by unfold dg; rw [hcu']
                  rw [hdg'] at D2'
                  have hb2 := dg_bounds l (i + 1)
                  clear hdg' hcu'
                  by_cases hbad : dg l i < 0 ∨ dg l (i + 1) < 0
                  · have hSe := Lib.hid ((scan_bad hlt hu32 (.inr hbad) acc).symm.trans hS.out)
                    have hZ2 : Hid (Z = (3, ((b + i : Nat) : Int), [])) := Lib.hid (by
                      have h := hZ.out
                      rw [HDR.out] at h
                      rw [← h]
                      exact ldl_bad (by rw [HL.out, ← hSe.out]))
                    have hbi : (b : Int) + (i : Int) = ((b + i : Nat) : Int) := by omega
                    have HBI := Lib.hid hbi
                    clear hu32 hS hbi
                    generalize dg l i = x at *
                    generalize dg l (i + 1) = y at *
                    by_cases hx : x < 0
                    · go_wp2_with fail
                      refine (D1.out _).mono ?_; rintro e w1 ⟨rfl, hB1⟩
                      have HD1 := Lib.hid (hDW.out.below hB1)
                      clear hB1
                      obtain ⟨hB, ⟨x0, c0⟩, ⟨x1, c1⟩, f0, f1⟩ := HD1.out.fr
                      clear hB
                      go_wp2_with fail
                      refine bodyPost_ret (v := .tuple #[.string ⟨#[]⟩, .agg #[.int .i64 3, .int .i64 ((b : Int) + (i : Int))]]) (by simp [results, Tryd.results10, go_sem, c0, c1]) rfl ?_
                      exact ⟨by first | (rw [hZ2.out, HBI.out]; done) | (rw [hZ2.out, HBI.out]; rfl), HD1.out.fr.stored _ _⟩
                    · have hx' : 0 ≤ x := by omega
                      have hy : y < 0 := by omega
                      clear hbad
                      go_wp2_with fail
                      refine (D1.out _).mono ?_; rintro e w1 ⟨rfl, hB1⟩
                      have HD1 := Lib.hid (hDW.out.below hB1)
                      clear hB1
                      go_wp2_with fail
                      refine (D2'.out _).mono ?_; rintro e w2 ⟨rfl, hB2⟩
                      have HD2 := Lib.hid (HD1.out.below hB2)
                      clear hB2
                      obtain ⟨hB, ⟨x0, c0⟩, ⟨x1, c1⟩, f0, f1⟩ := HD2.out.fr
                      clear hB
                      go_wp2_with fail
                      refine bodyPost_ret (v := .tuple #[.string ⟨#[]⟩, .agg #[.int .i64 3, .int .i64 ((b : Int) + (i : Int))]]) (by simp [results, Tryd.results10, go_sem, c0, c1]) rfl ?_
                      exact ⟨by first | (rw [hZ2.out, HBI.out]; done) | (rw [hZ2.out, HBI.out]; rfl), HD2.out.fr.stored _ _⟩
                  · have hSe := Lib.hid ((scan_byte hlt hu32 (by omega) acc).symm.trans hS.out)
                    obtain ⟨x, hx⟩ := Int.eq_ofNat_of_zero_le (show 0 ≤ dg l i by omega)
                    obtain ⟨y, hy⟩ := Int.eq_ofNat_of_zero_le (show 0 ≤ dg l (i + 1) by omega)
                    have hx16 : x ≤ 15 := by omega
                    have hy16 : y ≤ 15 := by omega
                    have hb : by2 l i = UInt8.ofNat ((((x : Int) * 16 + (y : Int)).toNat) % 256) := by
                      unfold by2; rw [hx, hy]
                      exact congrArg UInt8.ofNat (by simp only [Int.toNat_natCast]; omega)
                    have HBY := Lib.hid hb
                    rw [hx] at D1
                    rw [hy] at D2'
                    have HUP := Lib.hid (fun (w w' : World) h1 h2 => DW.byte (w := w) (w' := w') (b2 := by2 l i) hDW.out h1 h2)
                    generalize by2 l i = b2 at *
                    obtain ⟨m2, hm2⟩ : ∃ m2, m2 = acc ++ [b2] := ⟨_, rfl⟩
                    have hml : m2.length = acc.length + 1 := by rw [hm2]; simp
                    have HML := Lib.hid hml
                    have hpm : Hid ((put out a m2).length = max (put out a acc).length (a + acc.length + 1)) := Lib.hid (by rw [hm2]; exact put_snoc_len _ _ _ _)
                    have HM := Lib.hid hm2
                    rw [← hm2] at hSe
                    have hkey := keyOf_int_mk (P := Tryd.prog) Tryd.underlying3 (a := ((a + acc.length : Nat) : Int)) (WalkArith.wf_i64 (by omega))
                    rw [Int.natCast_add] at hkey
                    have C := Lib.hid (fun (m : Int) (hm : 0 ≤ m) W => Chr.char_any m hm W)
                    have w1 : IntKind.i64.wrap ((x : Int) * 16) = (x : Int) * 16 := IntWalk.i64_in _ (by omega)
                    have w2 : IntKind.i64.wrap ((x : Int) * 16 + (y : Int)) = (x : Int) * 16 + (y : Int) := IntWalk.i64_in _ (by omega)
                    have w3 : IntKind.u64.wrap ((x : Int) * 16 + (y : Int)) = (x : Int) * 16 + (y : Int) := by rw [IntKind.wrap_u64]; omega
                    have w4 : IntKind.i64.wrap ((i : Int) + 1) = (i : Int) + 1 := IntWalk.i64_in _ (by omega)
                    have w5 : ((i : Int) + 1).toNat = i + 1 := by omega
                    have w6 : (0 : Int) ≤ (i : Int) + 1 := by omega
                    clear hx hy hu32 hS hbad hb hm2 hml hb1 hb2
                    go_wp2_with fail
                    refine (D1.out _).mono ?_; rintro e w1 ⟨rfl, hB1⟩
                    have HD1 := Lib.hid (hDW.out.below hB1)
                    clear hB1
                    go_wp2_with fail
                    refine (D2'.out _).mono ?_; rintro e w2 ⟨rfl, hB2⟩
                    have HD2 := Lib.hid (HD1.out.below hB2)
                    clear hB2
                    go_wp2_with fail
                    go_region_with (first
                      | (go_at_call 23; (first | (with_reducible refine (D1.out _).mono ?_) | (with_reducible refine (D2'.out _).mono ?_)); rintro e w4 ⟨rfl, hB4⟩; have HD2 := Lib.hid (by first | exact HD2.out.below hB4 | exact HD2.out.drew.below hB4); clear hB4)
                      | (go_at_call 14; refine (C.out _ (by omega) _).mono ?_; rintro e w4 ⟨rfl, hB4⟩; have HD2 := Lib.hid (by first | exact HD2.out.below hB4 | exact HD2.out.drew.below hB4); clear hB4)
                      | (refine upon_mapUpdate_own 49 3 9 keyedI (plainElem Tryd.prog 9) Tryd.underlying49 (W.heap.size + 1) n2 D2 HD2.out.map (by unfold maxLen; omega) _ _ _ hkey _ [] (plainElem_string Tryd.underlying9 (show (1 : Nat) ≤ maxLen by unfold maxLen; omega)) ?_; rintro w5 hup))
                    all_goals
                      have HDW2 : Hid (DW W g L (n2 + 1) (D2.put (.int .i64 ((a + acc.length : Nat) : Int)) (.lit (.string [b2]))) (put out a m2) w5) := Lib.hid (by rw [HM.out]; exact HUP.out _ _ HD2.out ⟨by rw [HBY.out, Int.natCast_add]; exact hup.1, hup.2⟩)
                      clear hup
                      have hme : ((put out a m2).length : Int) = max ((put out a acc).length : Int) ((a : Int) + (acc.length : Int) + 1) := by rw [hpm.out]; omega
                      go_wp2_with fail
                      go_roundw
                      case rel => first | exact ⟨i + 2, m2, n2 + 1, _, by omega, by omega, by go_num, by first | go_num | (rw [HML.out]; go_num), by first | (rw [hme]; done) | (rw [hme]; go_num) | (simp only [hme, Value.int.injEq, true_and]; omega), by rw [HML.out]; omega, by omega, hSe, HDW2⟩ | ((repeat apply Exists.intro); exact ⟨⟨i + 2, m2, n2 + 1, _, by omega, by omega, by go_num, by first | go_num | (rw [HML.out]; go_num), by first | (rw [hme]; done) | (rw [hme]; go_num) | (simp only [hme, Value.int.injEq, true_and]; omega), by rw [HML.out]; omega, by omega, hSe, HDW2⟩, rfl⟩)
                      case measure => first | (simp [intOf]; done) | (simp [intOf]; omega)
                · have d2 : (l.size : Int) ≤ (i : Int) + 1 := by omega
                  have hSe := Lib.hid ((scan_bad hlt hu32 (.inl (by omega)) acc).symm.trans hS.out)
                  have hZ2 : Hid (Z = (3, ((b + i : Nat) : Int), [])) := Lib.hid (by
                    have h := hZ.out
                    rw [HDR.out] at h
                    rw [← h]
                    exact ldl_bad (by rw [HL.out, ← hSe.out]))
                  have hbi : (b : Int) + (i : Int) = ((b + i : Nat) : Int) := by omega
                  have HBI := Lib.hid hbi
                  obtain ⟨hB, ⟨x0, c0⟩, ⟨x1, c1⟩, f0, f1⟩ := hDW.out.fr
                  clear hB hu32 hS hbi
                  go_wp2_with fail
                  refine bodyPost_ret (v := .tuple #[.string ⟨#[]⟩, .agg #[.int .i64 3, .int .i64 ((b : Int) + (i : Int))]]) (by simp [results, Tryd.results10, go_sem, c0, c1]) rfl ?_
                  exact ⟨by first | (rw [hZ2.out, HBI.out]; done) | (rw [hZ2.out, HBI.out]; rfl), hDW.out.fr.stored _ _⟩
            · have hSe := Lib.hid ((scan_end (by omega) acc).symm.trans hS.out)
              have kd : decide (i < l.size) = false := decide_eq_false hlt
              have kd2 : decide ((i : Int) < (l.size : Int)) = false := decide_eq_false (by omega)
              have HLN : Hid (ln l = (none, (some a), acc)) := Lib.hid (by rw [HL.out, ← hSe.out])
              have HLL := Lib.hid (ldl_line (r := L.drop (k + 1)) (b := b) HLN.out HGD.out hol)
              by_cases hfull : 4000 < (put out a acc).length
              · have hfI : (4000 : Int) < ((put out a acc).length : Int) := by omega
                have hZ2 : Hid (Z = (4, -1, [])) := Lib.hid (by
                  have h := hZ.out
                  rw [HDR.out] at h
                  rw [← h]
                  exact HLL.out.1 hfull)
                obtain ⟨hB, ⟨x0, c0⟩, ⟨x1, c1⟩, f0, f1⟩ := hDW.out.fr
                have HF := Lib.hid hDW.out.fr
                clear hB hZ hS hSe hfull
                generalize (put out a acc).length = pl at *
                go_wp2_with fail
                refine bodyPost_ret (v := .tuple #[.string ⟨#[]⟩, .agg #[.int .i64 4, .int .i64 (-1)]]) (by simp [results, Tryd.results10, go_sem, c0, c1]) rfl ?_
                exact ⟨by first | (rw [hZ2.out]; done) | (rw [hZ2.out]; rfl), HF.out.stored _ _⟩
              · have hfI : ((put out a acc).length : Int) ≤ 4000 := by omega
                have hZ2 : Hid (ldl (L.drop (k + 1)) (b + l.size + 1) (put out a acc) = Z) := Lib.hid (by
                  have h := hZ.out
                  rw [HDR.out] at h
                  rw [← h]
                  exact (HLL.out.2 (by omega)).symm)
                have hb2 : Hid (b + l.size + 1 + tot (L.drop (k + 1)) = s.size + 1) := Lib.hid (by have := hT.out; omega)
                have hol2 : (put out a acc).length ≤ 4000 := by omega
                have hn3 : n2 ≤ b + l.size + 1 := by omega
                clear hZ hS hSe hfull HLL
                generalize put out a acc = O2 at *
                go_wp2_with fail
                go_roundw
                case rel => first | exact ⟨k + 1, b + l.size + 1, n2, D2, O2, by omega, hol2, hn3, by go_num, by go_num, by first | rfl | go_num, hb2, hZ2, hDW⟩ | ((repeat apply Exists.intro); exact ⟨⟨k + 1, b + l.size + 1, n2, D2, O2, by omega, hol2, hn3, by go_num, by go_num, by first | rfl | go_num, hb2, hZ2, hDW⟩, rfl⟩)
                case measure => first | (simp [intOf]; done) | (simp [intOf]; omega)
    · have hdr : L.drop k = [] := List.drop_of_length_le (by omega)
      have hZ3 : Hid (Z = (0, -1, out)) := Lib.hid (by have h := hZ.out; rw [hdr] at h; rw [← h]; rfl)
      have hb3 : b ≤ 1501 := by have h := hT.out; rw [hdr] at h; simp only [tot] at h; omega
      have kd : decide (k < L.length) = false := decide_eq_false hkl
      have kd2 : decide ((k : Int) < (L.length : Int)) = false := decide_eq_false (by omega)
      clear hdr hT hZ
      go_wp2_with fail
      go_loopw [15, 133] (fun ss ii wr => ∃ (i n2 : Nat) (D2 : DataW Unit), i ≤ out.length ∧ n2 ≤ 1501 + i ∧ ii = .int .i64 (i : Int) ∧ ss = .string ⟨(out.take i).toArray⟩ ∧ Hid (DW W g L n2 D2 out wr)) (fun _ ii _ => out.length - (intOf ii).toNat)
      case atStart => exact ⟨0, n, D, Nat.zero_le _, by omega, rfl, rfl, hD0⟩
      case round =>
        clear hD0
        obtain ⟨i, n2, D2, hi, hn2, rfl, rfl, HD⟩ := hrel
        by_cases hlt : i < out.length
        · obtain ⟨sv, h1, h2⟩ := HD.out.rd i
          have hkey := keyOf_int_mk (P := Tryd.prog) Tryd.underlying3 (a := (i : Int)) (WalkArith.wf_i64 (by omega))
          have HT := Lib.hid (app_take hlt)
          rcases h2 with ⟨rfl, h3⟩ | ⟨rfl, h0⟩
          · clear h3
            generalize out.getD i 0 = x at *
            go_wp2_with ((at_lookup; refine wpList_lookup_own_string _ rfl _ _ 49 rfl 3 9 keyedI Tryd.underlying49 Tryd.underlying9 (zeroStr _) (W.heap.size + 1) n2 D2 rfl HD.out.map _ _ rfl hkey ?_; intro c hc; obtain rfl := strOf (h1.symm.trans hc); clear hc))
            go_roundw
            case rel => first | exact ⟨i + 1, n2, D2, by omega, by omega, by go_num, by first | (rw [← HT.out]; done) | (rw [← HT.out]; rfl), HD⟩ | ((repeat apply Exists.intro); exact ⟨⟨i + 1, n2, D2, by omega, by omega, by go_num, by first | (rw [← HT.out]; done) | (rw [← HT.out]; rfl), HD⟩, rfl⟩)
            case measure => first | (simp [intOf]; done) | (simp [intOf]; omega)
          · obtain ⟨w5, hrun, hup⟩ := HD.out.map.update keyedI Tryd.underlying49 (show n2 < maxLen by unfold maxLen; omega) hkey (plainElem_string Tryd.underlying9 (s := ⟨#[0]⟩) (show (1 : Nat) ≤ maxLen by unfold maxLen; omega))
            have HD5 : Hid (DW W g L (n2 + 1) _ out w5) := Lib.hid (HD.out.put_ hup.1 hup.2 (rd_zero HD.out.map.isMap HD.out.rd hlt h0))
            have h5 : (D2.put (.int .i64 (i : Int)) (.lit (.string [0]))).atKey (.int .i64 (i : Int)) (.lit (.string [])) = .lit (.string [0]) := atKey_put_same HD.out.map.isMap (by trivial) _ _
            rw [h0] at HT
            clear hup h0
            go_wp2_with (first | ((at_lookup; refine wpList_lookup_own_string _ rfl _ _ 49 rfl 3 9 keyedI Tryd.underlying49 Tryd.underlying9 (zeroStr _) (W.heap.size + 1) n2 D2 rfl HD.out.map _ _ rfl hkey ?_; intro c hc; obtain rfl := strOf (h1.symm.trans hc); clear hc)) | ((at_lookup; refine wpList_lookup_own_string _ rfl _ _ 49 rfl 3 9 keyedI Tryd.underlying49 Tryd.underlying9 (zeroStr _) (W.heap.size + 1) (n2 + 1) _ rfl HD5.out.map _ _ rfl hkey ?_; intro c hc; obtain rfl := strOf (h5.symm.trans hc); clear hc)))
            go_roundw
            case rel => first | exact ⟨i + 1, n2 + 1, _, by omega, by omega, by go_num, by first | (rw [← HT.out]; done) | (rw [← HT.out]; rfl), HD5⟩ | ((repeat apply Exists.intro); exact ⟨⟨i + 1, n2 + 1, _, by omega, by omega, by go_num, by first | (rw [← HT.out]; done) | (rw [← HT.out]; rfl), HD5⟩, rfl⟩)
            case measure => first | (simp [intOf]; done) | (simp [intOf]; omega)
        · have hio : i = out.length := by omega
          subst hio
          rw [List.take_length]
          go_wp2_with fail
          refine (Chr.good_any _).mono ?_; rintro e w1 ⟨rfl, hB1⟩
          have HD1 := Lib.hid (HD.out.below hB1)
          clear hB1
          obtain ⟨hB, ⟨x0, c0⟩, ⟨x1, c1⟩, f0, f1⟩ := HD1.out.fr
          clear hB
          go_wp2_with fail
          refine bodyPost_ret (v := .tuple #[.string ⟨out.toArray⟩, .agg #[.int .i64 0, .int .i64 (-1)]]) (by simp [results, Tryd.results10, go_sem, c0, c1]) rfl ?_
          exact ⟨by first | (rw [hZ3.out]; done) | (rw [hZ3.out]; rfl), HD1.out.fr.stored _ _⟩
end Go.Proofs.YtnbpninnanjemaaDoor.Xl
