/-
  PROVED HERE: the contract of the program's items. Conditions: as each theorem states.
-/
import Derived.Test.YtpnjlmpamincoaaDoorTfF
namespace Go.Proofs.YtpnjlmpamincoaaDoor.Tm
open Go.RowKit Go.Proofs.YtpnjlmpamincoaaDoor.Lex Go.Proofs.YtpnjlmpamincoaaDoor.Dig
theorem Ch.of_map {C mb : Nat} {ob : Option Nat} {w w' : World} (h : w.grownBy w' (some mb)) : Ch C mb ob w w' := ⟨h.os, h.tape, h.output, h.size, fun k hk _ h2 _ => h.block k hk (fun e => h2 (by injection e))⟩
def ItmP (W0 : World) (C tb mb tn n : Nat) (T M : ByteArray → Bool) (sv : Value) (seen : List ByteArray) (l : List It) (W : World) (e : Ending) (w' : World) : Prop :=
  Ch C mb sv.ownBlock W w' ∧ (((blockF T l M seen).1.1 = 0 ∧ e = .returned (.tuple #[]) ∧ ∃ sv' n', CK W0.heap.size C tb mb tn n' T (blockF T l M seen).2 sv' seen w' ∧ n' ≤ n + cl l ∧ ∀ k, sv'.ownBlock = some k → sv.ownBlock = some k ∨ W.heap.size ≤ k) ∨ ((blockF T l M seen).1.1 ≠ 0 ∧ Thr w' (blockF T l M seen).1 e))
def ItmC (N : Nat) : Prop := ∀ (l : List It) (v : Value) (W0 : World) (C tb mb tn n : Nat) (T M : ByteArray → Bool) (sv : Value) (seen : List ByteArray) (W : World), cl l < N → ItsAt W0 v l → WfL l → l.length ≤ 16 → Below W0.heap.size W0 W → CK W0.heap.size C tb mb tn n T M sv seen W → n + cl l ≤ 1000000 → seen.length + cl l ≤ 1000000 →
  Calls Tryd.prog 22 #[.pointer (some ⟨C, 0, none⟩), v] W (ItmP W0 C tb mb tn n T M sv seen l W)
def ItmR (W0 : World) (C tb mb tn n : Nat) (T M : ByteArray → Bool) (sv : Value) (seen : List ByteArray) (l : List It) (W : World) (i : Value) (wr : World) : Prop := ∃ (k n' : Nat) (M' : ByteArray → Bool) (sv' : Value) (ys : List ByteArray), i = .int .i64 k ∧ k ≤ l.length ∧ Hid (CK W0.heap.size C tb mb tn n' T M' sv' (seen ++ ys) wr) ∧ Hid (Ch C mb sv.ownBlock W wr) ∧ (∀ j, sv'.ownBlock = some j → sv.ownBlock = some j ∨ W.heap.size ≤ j) ∧ n' + cl (l.drop k) ≤ n + cl l ∧ (seen ++ ys).length + cl (l.drop k) ≤ seen.length + cl l ∧ Hid (itemsF T l M seen = itemsF T (l.drop k) M' (seen ++ ys))
set_option maxRecDepth 100000 in
set_option maxHeartbeats 8000000 in
theorem items_step (N : Nat) (IH : ItmC N) : ItmC (N + 1) := by
  intro l v W0 C tb mb tn n T M sv seen W hN h hwf hl hW0 hC hn hs
  obtain ⟨a, cap, rfl, hcap, _⟩ := id h
  have HI := Lib.hid h
  have HB0 := Lib.hid hW0
  have HK := Lib.hid hC
  have HW := Lib.hid (wfL_mem hwf)
  have HJ := Lib.hid IH
  obtain ⟨sa, sc, rfl⟩ := hC.sn.len
  have hsl : (seen.map Value.string).length = seen.length := List.length_map ..
  rw [hsl] at HK hC
  have hOB0 := hC.sn.lt
  obtain ⟨c0, c1, c2, cf⟩ := hC.cell
  have hCB := hC.hC
  have hmB := hC.hm
  have hW0s := hW0.size
  rw [hsl]
  clear h hW0 hwf IH hC hsl
  go_enter Tryd.func22, Tryd.ntmps22
  go_wp2_with fail
  go_loopw [14] (fun i wr => ItmR W0 C tb mb tn n T M (.slice sa seen.length sc) seen l W i wr) (fun i _ => l.length - (intOf i).toNat)
  case atStart => exact ⟨0, n, M, _, [], rfl, Nat.zero_le _, by rw [List.append_nil]; exact HK, Lib.hid (Ch.refl _ _ _ _), fun _ h => .inl h, Nat.le_refl _, by rw [List.append_nil]; exact Nat.le_refl _, Lib.hid (by rw [List.append_nil]; rfl)⟩
  case round =>
    clear HK c0 c1 c2 cf
    obtain ⟨k, n', M', sv', ys, rfl, hk, hCK, HCH, hOB, hn', hs', hF⟩ := hrel
    obtain ⟨sa', sc', rfl⟩ := hCK.out.sn.len
    have hsl : ((seen ++ ys).map Value.string).length = (seen ++ ys).length := List.length_map ..
    rw [hsl] at hCK hOB
    clear hsl
    have hBW := Lib.hid (HCH.out.low HB0.out hCB hmB (fun k e => (hOB0 k e).1) hW0s)
    obtain ⟨c0, c1, c2, cf⟩ := hCK.out.cell
    obtain ⟨sn', hsn⟩ : ∃ s, seen ++ ys = s := ⟨_, rfl⟩
    have HSN := Lib.hid hsn
    by_cases hlt : k < l.length
    · obtain ⟨b, o, cv, iv, rfl, hc, hit⟩ := its_at HI.out k hlt
      obtain ⟨⟨p8, rfl⟩, a12, c12, rfl⟩ := it_forms hit
      have i1 : (0 : Int) ≤ (k : Int) := by omega
      have i2 : (k : Int) < (l.length : Int) := by omega
      have hst := Lib.hid (hF.out.trans (itemsF_step hlt))
      have hcd := cl_drop hlt
      have hwf := Lib.hid ((wfI_iff _).1 (HW.out l[k] (List.getElem_mem hlt)))
      have HIt := Lib.hid hit
      rw [ci_eq] at hcd
      have hcl := cl_drop_le l k
      clear hF hit
      generalize l[k] = x at *
      have z0 : wr.cell? ⟨b, o + k * 13, none⟩ = some (.int .i64 x.kind) := keepCell hBW.out (hc 0 _ rfl)
      have z1 : wr.cell? ⟨b, o + k * 13 + 1, none⟩ = some (.int .i64 (x.at_ : Nat)) := keepCell hBW.out (hc 1 _ rfl)
      have z8 : wr.cell? ⟨b, o + k * 13 + 8, none⟩ = some (.pointer p8) := keepCell hBW.out (hc 8 _ rfl)
      have HZ := Lib.hid hc
      clear hc
      rw [hsn] at hCK hs' hst hOB c2
      obtain ⟨kd, hkd⟩ : ∃ y, x.kind = y := ⟨_, rfl⟩
      rw [hkd] at z0
      have HA := Lib.hid (fun w (hb : Below W0.heap.size W0 w) (h2 : w.cell? ⟨C, 2, none⟩ = some (.slice sa' sn'.length sc')) (h3 : StrsAt w (.slice sa' sn'.length sc') sn') => asks_any (W := w) sn' _ x.count (.pointer p8) C (ctAt_below hb _ _ ((itAt_iff _ _ _ _).1 HIt.out).1) hwf.out.1.sz h2 h3 (by omega))
      obtain ⟨⟨f1, f2⟩, hf⟩ : ∃ f, hasC sn' (ctN x.count) = f := ⟨_, rfl⟩
      rw [hf] at HA
      have HF := Lib.hid hf
      clear hf hsn
      by_cases hk4 : kd = 4
      · subst hk4
        have HP := Lib.hid (HA.out wr hBW.out c2 (qu_strs hCK.out.sn))
        have hIF := Lib.hid (itemF_when (T := T) (M := M') (seen := sn') hkd)
        rw [HF.out] at hIF
        clear HA
        go_wp2_with fail
        refine (HP.out).mono ?_; rintro e w2 ⟨hout, hb⟩
        have C2 := Lib.hid (hCK.out.below hb)
        have H2 := Lib.hid (HCH.out.trans (Ch.of_below hb) hOB)
        have BW2 := Lib.hid (hBW.out.trans (hb.mono hBW.out.size))
        rcases hout with ⟨h0, rfl⟩ | ⟨h0, hthr⟩
        · simp only at h0
          subst h0
          have hIF := Lib.hid (hIF.out.trans (if_neg (fun h => h rfl)))
          have z12 : w2.cell? ⟨b, o + k * 13 + 12, none⟩ = some (.slice a12 x.items.length c12) := keepCell BW2.out (HZ.out 12 _ rfl)
          have HN := Lib.hid (HJ.out x.items _ W0 C tb mb tn n' T M' _ sn' w2 (by omega) ((itAt_iff _ _ _ _).1 HIt.out).2 hwf.out.2 hwf.out.1.few BW2.out C2.out (by omega) (by omega))
          have hob2 := C2.out.sn.lt
          have s2 := hb.size
          have sW := HCH.out.size
          clear HP hb hCK HCH hBW c0 c1 c2 cf z0 z1 z8
          go_wp2_with fail
          refine (HN.out).mono ?_; rintro e w3 ⟨hch, hres⟩
          have H3 := Lib.hid (H2.out.trans hch hOB)
          obtain ⟨⟨⟨g1, g2⟩, M5⟩, hbl⟩ : ∃ f, blockF T x.items M' sn' = f := ⟨_, rfl⟩
          rw [hbl] at hres hIF
          simp only at hres hIF
          rcases hres with ⟨hg, rfl, sv3, n3, hck3, hn3, hob3⟩ | ⟨hg, hthr⟩
          · subst hg
            have HR := Lib.hid (bw_next hst.out hIF.out rfl)
            have C3 := Lib.hid hck3
            clear hch hck3 HN hst hIF hbl
            go_wp2_with fail
            go_roundw
            case rel => exact ⟨k + 1, n3, M5, sv3, ys, by go_num, hlt, by rw [HSN.out]; exact C3, H3, fun j e => by rcases hob3 j e with e2 | e2; exact hOB j e2; exact .inr (by omega), by omega, by rw [HSN.out]; omega, by rw [HSN.out]; exact HR⟩
            case measure => first | (simp [intOf]; done) | (simp [intOf]; omega)
          · have hR := Lib.hid (bw_fail hst.out hIF.out hg)
            obtain ⟨b9, rfl, q0, q1⟩ := hthr
            have T9 := Lib.hid (show Thr w3 (g1, g2) _ from ⟨b9, rfl, q0, q1⟩)
            have G9 := Lib.hid hg
            clear hch HN hst hIF hbl q0 q1 hg
            go_wp2_with fail
            exact ⟨rfl, H3.out, .inr (by rw [hR.out]; exact ⟨G9.out, T9.out⟩)⟩
        · have hIF := Lib.hid (hIF.out.trans (if_pos h0))
          have hR := Lib.hid (bw_fail hst.out hIF.out h0)
          obtain ⟨b9, rfl, q0, q1⟩ := hthr
          have T9 := Lib.hid (show Thr w2 (f1, f2) _ from ⟨b9, rfl, q0, q1⟩)
          have G9 := Lib.hid h0
          clear HP hb hst hIF q0 q1 h0
          go_wp2_with fail
          exact ⟨rfl, H2.out, .inr (by rw [hR.out]; exact ⟨G9.out, T9.out⟩)⟩
      · have e4 : (kd == 4) = false := by simpa using hk4
        have hIF := Lib.hid (itemF_other (T := T) (M := M') (seen := sn') (x := x) (by rw [hkd]; exact hk4))
        rw [hkd, HF.out] at hIF
        have hnm := hwf.out.1.names
        have z2 : wr.cell? ⟨b, o + k * 13 + 2, none⟩ = some (.string x.name) := keepCell hBW.out (HZ.out 2 _ rfl)
        have get := fun m : Nat => MN.get (w := wr.drewN m) (hCK.out.nm) x.name hnm.1
        obtain ⟨bm, hbm⟩ : ∃ q, M' x.name = q := ⟨_, rfl⟩
        rw [hbm] at get hIF
        go_upto_region 8 with fail
        cases bm with
        | true =>
          have get1 : ∀ m : Nat, Sem.run Tryd.prog (Instr.lookup 55 (.map (some mb)) (.string x.name) false) (wr.drewN m) = .ok (.int .i64 1) (wr.drewN m) := fun m => get m
          have hR := Lib.hid (bw_fail hst.out (hIF.out.trans (if_pos rfl)) (show (9 : Int) ≠ 0 by decide))
          clear get hbm hst hIF HA
          go_quiet (fail)
          have v1 : (wr.drewN nq).cell? ⟨b, o + k * 13 + 1, none⟩ = some (.int .i64 (x.at_ : Nat)) := z1
          have HCH := Lib.hid (HCH.out.trans (Ch.of_below (below_drewN (Below.refl _ wr) nq)) hOB)
          clear z0 z1 z2 z8 c0 c1 c2 cf get1 hCK hBW
          generalize wr.drewN nq = w2 at *
          go_wp2_with fail
          refine (fail_any 9 (x.at_ : Nat)).mono ?_; rintro e w9 ⟨⟨b9, rfl, q0, q1⟩, hb9⟩
          have B9 := Lib.hid (HCH.out.trans (Ch.of_below hb9) hOB)
          have T9 := Lib.hid (show Thr w9 (9, (x.at_ : Int)) _ from ⟨b9, rfl, q0, q1⟩)
          clear hb9 q0 q1
          go_wp2_with fail
          exact ⟨rfl, B9.out, .inr (by rw [hR.out]; exact ⟨show (9 : Int) ≠ 0 by decide, T9.out⟩)⟩
        | false =>
          have get1 : ∀ m : Nat, Sem.run Tryd.prog (Instr.lookup 55 (.map (some mb)) (.string x.name) false) (wr.drewN m) = .ok (.int .i64 0) (wr.drewN m) := fun m => get m
          have hIF := Lib.hid (hIF.out.trans (if_neg (by decide)))
          clear get hbm
          go_quiet (fail)
          have C2 := Lib.hid (hCK.out.below (below_drewN (Below.refl _ wr) nq))
          have BW2 := Lib.hid (hBW.out.trans ((below_drewN (Below.refl _ wr) nq).mono hBW.out.size))
          have H2 := Lib.hid (HCH.out.trans (Ch.of_below (below_drewN (Below.refl _ wr) nq)) hOB)
          clear z0 z1 z2 z8 c0 c1 c2 cf get1 hCK hBW HCH
          generalize wr.drewN nq = w2 at *
          have Cd := Lib.hid (C2.out.below ((Below.refl _ w2).drew))
          have Hd := Lib.hid (H2.out.trans (Ch.of_below ((Below.refl _ w2).drew)) hOB)
          have BWd := Lib.hid (BW2.out.trans (((Below.refl _ w2).drew).mono BW2.out.size))
          obtain ⟨w3, e3, hM3, hg3⟩ := Cd.out.nm.put (by omega) x.name hnm.1
          have C3 := Lib.hid (Cd.out.names hg3 hM3)
          have H3 := Lib.hid (Hd.out.trans (Ch.of_map hg3) hOB)
          have BW3 := Lib.hid (H3.out.low HB0.out hCB hmB (fun k e => (hOB0 k e).1) hW0s)
          obtain ⟨c0, c1, c2, cf⟩ := C2.out.cell
          have y2 : w2.cell? ⟨b, o + k * 13 + 2, none⟩ = some (.string x.name) := keepCell BW2.out (HZ.out 2 _ rfl)
          have d1 : w2.drew.cell? ⟨C, 1, none⟩ = some (.map (some mb)) := c1
          have y2d : w2.drew.cell? ⟨b, o + k * 13 + 2, none⟩ = some (.string x.name) := y2
          clear hM3 hg3
          go_upto_region 10 with fail
          go_still_tail 8, (by kernel_rfl)
          go_upto_region 11 with fail
          clear c0 c1 c2 cf y2 d1 y2d e3 C2 Cd H2 Hd BW2 BWd
          have z0 : w3.cell? ⟨b, o + k * 13, none⟩ = some (.int .i64 kd) := by rw [← hkd]; exact keepCell BW3.out (HZ.out 0 _ rfl)
          have z3 : w3.cell? ⟨b, o + k * 13 + 3, none⟩ = some (.string x.type) := keepCell BW3.out (HZ.out 3 _ rfl)
          obtain ⟨c0, c1, c2, cf⟩ := C3.out.cell
          have getT := fun m : Nat => MN.get (w := w3.drewN m) (C3.out.ty) x.type hnm.2.1
          obtain ⟨bt, hbt⟩ : ∃ q, T x.type = q := ⟨_, rfl⟩
          rw [hbt] at getT hIF
          clear hbt
          go_cut [76] (fun v wx => (∃ bb : Bool, v = .bool bb ∧ (bb = true ↔ kd = 3 ∧ bt = false)) ∧ Hid (Below w3.heap.size w3 wx))
          case first =>
            by_cases hk3 : kd = 3
            · subst hk3
              cases bt with
              | true =>
                have get1 : ∀ m : Nat, Sem.run Tryd.prog (Instr.lookup 55 (.map (some tb)) (.string x.type) false) (w3.drewN m) = .ok (.int .i64 1) (w3.drewN m) := fun m => getT m
                clear getT
                go_quiet (fail)
                go_wp2_with fail
                go_meet
                exact ⟨⟨_, rfl, by simp⟩, Lib.hid (below_drewN (Below.refl _ w3) nq)⟩
              | false =>
                have get1 : ∀ m : Nat, Sem.run Tryd.prog (Instr.lookup 55 (.map (some tb)) (.string x.type) false) (w3.drewN m) = .ok (.int .i64 0) (w3.drewN m) := fun m => getT m
                clear getT
                go_quiet (fail)
                go_wp2_with fail
                go_meet
                exact ⟨⟨_, rfl, by simp⟩, Lib.hid (below_drewN (Below.refl _ w3) nq)⟩
            · have e3 : (kd == 3) = false := by simpa using hk3
              clear getT
              go_quiet (fail)
              go_wp2_with fail
              go_meet
              exact ⟨⟨_, rfl, by simp [hk3]⟩, Lib.hid (below_drewN (Below.refl _ w3) nq)⟩
          case rest =>
            obtain ⟨⟨bb, rfl, hbb⟩, hb4⟩ := hcut
            have C4 := Lib.hid (C3.out.below hb4.out)
            have HCH := Lib.hid (H3.out.trans (Ch.of_below hb4.out) hOB)
            have BW4 := Lib.hid (BW3.out.trans (hb4.out.mono BW3.out.size))
            clear z0 z3 c0 c1 c2 cf getT C3 H3 BW3 hb4
            have z1 : wc.cell? ⟨b, o + k * 13 + 1, none⟩ = some (.int .i64 (x.at_ : Nat)) := keepCell BW4.out (HZ.out 1 _ rfl)
            have z8 : wc.cell? ⟨b, o + k * 13 + 8, none⟩ = some (.pointer p8) := keepCell BW4.out (HZ.out 8 _ rfl)
            cases bb with
            | true =>
              have hR := Lib.hid (bw_fail hst.out (hIF.out.trans (if_pos (hbb.1 rfl))) (show (7 : Int) ≠ 0 by decide))
              clear hst hIF HA hbb
              go_wp2_with fail
              refine (fail_any 7 (x.at_ : Nat)).mono ?_; rintro e w9 ⟨⟨b9, rfl, q0, q1⟩, hb9⟩
              have B9 := Lib.hid (HCH.out.trans (Ch.of_below hb9) hOB)
              have T9 := Lib.hid (show Thr w9 (7, (x.at_ : Int)) _ from ⟨b9, rfl, q0, q1⟩)
              clear hb9 q0 q1
              go_wp2_with fail
              exact ⟨rfl, B9.out, .inr (by rw [hR.out]; exact ⟨show (7 : Int) ≠ 0 by decide, T9.out⟩)⟩
            | false =>
              have hIF := Lib.hid (hIF.out.trans (if_neg (fun h => by have := hbb.2 h; cases this)))
              obtain ⟨c0, c1, c2, cf⟩ := C4.out.cell
              have HP := Lib.hid (HA.out wc BW4.out c2 (qu_strs C4.out.sn))
              clear HA hbb c0 c1 cf
              go_wp2_with fail
              refine (HP.out).mono ?_; rintro e w5 ⟨hout, hb⟩
              have C5 := Lib.hid (C4.out.below hb)
              have H5 := Lib.hid (HCH.out.trans (Ch.of_below hb) hOB)
              have BW5 := Lib.hid (BW4.out.trans (hb.mono BW4.out.size))
              clear c2 z1 z8
              rcases hout with ⟨h0, rfl⟩ | ⟨h0, hthr⟩
              · simp only at h0
                subst h0
                have v0 : w5.cell? ⟨b, o + k * 13, none⟩ = some (.int .i64 kd) := by rw [← hkd]; exact keepCell BW5.out (HZ.out 0 _ rfl)
                have v7 : w5.cell? ⟨b, o + k * 13 + 7, none⟩ = some (.bool x.many) := keepCell BW5.out (HZ.out 7 _ rfl)
                obtain ⟨mn7, hmn7⟩ : ∃ y, x.many = y := ⟨_, rfl⟩
                rw [hmn7] at v7 hIF
                clear HP hb
                by_cases hk1 : kd = 1
                · have e1 : (kd == 1) = true := by simpa using hk1
                  cases mn7 with
                  | true =>
                    have HE := Lib.hid (show itemF T x M' sn' = ((0, -1), putM M' x.name, sn') by rw [hIF.out]; unfold tailF; rw [if_neg (fun h => h rfl), if_neg (fun h => by cases h.2)]; rfl)
                    have HR := Lib.hid (bw_next hst.out HE.out rfl)
                    clear HE hst hk1 hIF
                    go_wp2_with fail
                    go_roundw
                    case rel => exact ⟨k + 1, n' + 1, _, _, ys, by go_num, hlt, by rw [HSN.out]; exact C5, H5, hOB, by omega, by rw [HSN.out]; omega, by rw [HSN.out]; exact HR⟩
                    case measure => first | (simp [intOf]; done) | (simp [intOf]; omega)
                  | false =>
                    have HE := Lib.hid (show itemF T x M' sn' = ((0, -1), putM M' x.name, sn' ++ [x.name]) by rw [hIF.out]; unfold tailF; rw [if_neg (fun h => h rfl), if_pos ⟨hk1, rfl⟩]; rfl)
                    have HR := Lib.hid (bw_next hst.out HE.out rfl)
                    clear HE hst hk1 hIF
                    go_upto_region 15 with fail
                    have c2 : w5.cell? ⟨C, 2, none⟩ = some (.slice sa' sn'.length sc') := C5.out.cell.2.2.1
                    have y2 : w5.cell? ⟨b, o + k * 13 + 2, none⟩ = some (.string x.name) := keepCell BW5.out (HZ.out 2 _ rfl)
                    have hA5 := (Below.refl w5.heap.size w5).alloc (Nat.le_refl _) (.cells #[.string x.name] 9)
                    have c2d : w5.drew.cell? ⟨C, 2, none⟩ = some (.slice sa' sn'.length sc') := c2
                    have y2d : w5.drew.cell? ⟨b, o + k * 13 + 2, none⟩ = some (.string x.name) := y2
                    have c2a := keepCell hA5 c2
                    have y2a := keepCell hA5 y2
                    have A5 := Lib.hid (show Below w5.heap.size w5 (w5.drew.alloc (.cells #[.string x.name] 9)) from ((Below.refl _ _).drew).alloc (Nat.le_refl _) _)
                    have hW5 := BW5.out.size
                    have L5 := Lib.hid (show (sn'.map Value.string).length + 1 ≤ 1000001 by rw [List.length_map]; omega)
                    clear hA5
                    go_region_law (first
                      | (refine qu_append_step2 (by rfl) _ _ 57 (by rfl) W0.heap.size 9 (.string ⟨#[]⟩) 16 Tryd.underlying57 (by kernel_rfl) rfl (.slice sa' sn'.length sc') (sn'.map Value.string) (by rfl) ((C5.out.below A5.out).sn) _ [Value.string x.name] (by rfl) (Src.ofSlice _ Tryd.underlying57 _ 1 1 [Value.string x.name] (by rfl) (World.news_of_block (heap_alloc_new _ _)) (by simp [Value.oneCell'])) (by have := L5.out; simp only [List.length_singleton]; omega) (by have := L5.out; simp only [List.length_singleton]; omega) (Nat.le_trans hW5 A5.out.size) ?_; intro v9 w9 hq9 hb9 hg9 ho9; obtain ⟨a9, c9, rfl⟩ := hq9.len; rw [← List.map_singleton, ← List.map_append] at hq9; obtain ⟨hck9, k9, f9, -⟩ := (C5.out.below A5.out).snoc hq9 hg9; rw [show ((sn' ++ [x.name]).map Value.string).length = sn'.length + 1 by simp] at hck9; have CK9 := Lib.hid hck9; have H9 := Lib.hid ((Ch.of_below (C := C) (mb := mb) (ob := (Value.slice sa' sn'.length sc').ownBlock) A5.out).trans (Ch.of_row hg9) (fun _ e => .inl e)); have O9 := Lib.hid ho9; have S9 := Lib.hid A5.out.size; clear hck9 hq9 hb9 hg9 ho9))
                    all_goals
                      have HF9 := Lib.hid ((H5.out.trans H9.out hOB).trans (Ch.of_set (ob := (Value.slice sa seen.length sc).ownBlock) 2 (.slice a9 (sn'.length + 1) c9)) (fun _ e => .inl e))
                      have hOB9 : ∀ j, (Value.slice a9 (sn'.length + 1) c9).ownBlock = some j → (Value.slice sa seen.length sc).ownBlock = some j ∨ W.heap.size ≤ j := by
                        intro j e
                        rw [ob_same a9 (sn'.length + 1) (List.map Value.string sn' ++ [Value.string x.name]).length c9 c9] at e
                        have s5 := H5.out.size
                        have s9 := S9.out
                        rcases O9.out with e2 | e2
                        · rw [e2] at e
                          exact hOB j e
                        · rw [e2] at e
                          injection e with e
                          refine .inr ?_
                          rw [← e]
                          exact Nat.le_trans s5 s9
                      go_wp2_with fail
                      go_roundw
                      case rel => exact ⟨k + 1, n' + 1, _, _, ys ++ [x.name], by go_num, hlt, by rw [← List.append_assoc, HSN.out]; exact CK9, HF9, hOB9, by omega, by rw [← List.append_assoc, HSN.out, List.length_append, List.length_singleton]; omega, by rw [← List.append_assoc, HSN.out]; exact HR⟩
                      case measure => first | (simp [intOf]; done) | (simp [intOf]; omega)
                · have e1 : (kd == 1) = false := by simpa using hk1
                  have HE := Lib.hid (show itemF T x M' sn' = ((0, -1), putM M' x.name, sn') by rw [hIF.out]; unfold tailF; rw [if_neg (fun h => h rfl), if_neg (fun h => hk1 h.1)]; rfl)
                  have HR := Lib.hid (bw_next hst.out HE.out rfl)
                  clear HE hst hk1 hIF
                  go_wp2_with fail
                  go_roundw
                  case rel => exact ⟨k + 1, n' + 1, _, _, ys, by go_num, hlt, by rw [HSN.out]; exact C5, H5, hOB, by omega, by rw [HSN.out]; omega, by rw [HSN.out]; exact HR⟩
                  case measure => first | (simp [intOf]; done) | (simp [intOf]; omega)
              · have hIF := Lib.hid (hIF.out.trans (if_pos h0))
                have hR := Lib.hid (bw_fail hst.out hIF.out h0)
                obtain ⟨b9, rfl, q0, q1⟩ := hthr
                have T9 := Lib.hid (show Thr w5 (f1, f2) _ from ⟨b9, rfl, q0, q1⟩)
                have G9 := Lib.hid h0
                clear HP hb hst hIF q0 q1 h0
                go_wp2_with fail
                exact ⟨rfl, H5.out, .inr (by rw [hR.out]; exact ⟨G9.out, T9.out⟩)⟩
    · have i2 : ¬ (k : Int) < (l.length : Int) := by omega
      have HA := Lib.hid (show itemsF T l M seen = (good, M', seen ++ ys) from hF.out.trans (itemsF_end hlt))
      have hBF := Lib.hid (show blockF T l M seen = (rulesF l, M') by unfold blockF; rw [HA.out]; simp [good])
      have hI1 := HI.out.below hBW.out
      have HRU := Lib.hid (rules_any (W := wr) _ l C hl hI1 (fun x hx => ((wfI_iff _).1 (HW.out x hx)).1))
      have hnn : n' ≤ n + cl l := by omega
      clear hF HA hI1 hs' c0 c1 c2 cf
      go_wp2_with fail
      refine (HRU.out).mono ?_; rintro e w2 ⟨hout, hb⟩
      have C2 := Lib.hid (hCK.out.below hb)
      have H2 := Lib.hid (HCH.out.trans (Ch.of_below hb) hOB)
      rcases hout with ⟨h0, rfl⟩ | ⟨h0, hthr⟩
      · obtain ⟨c0, c1, c2, cf⟩ := C2.out.cell
        have h00 := Lib.hid h0
        have CC := Lib.hid C2.out.cut
        have hcap2 : (seen ++ ys).length ≤ sc' := by
          obtain ⟨_, cap2, ecap, hcap2, _⟩ := qu_strs C2.out.sn
          simp only [Value.slice.injEq] at ecap
          rw [ecap.2.2]
          exact hcap2
        have q1 : (seen.length : Int) ≤ (sc' : Int) := by rw [List.length_append] at hcap2; omega
        clear HRU hb h0
        go_wp2_with fail
        go_end0
        refine ⟨H2.out.trans (Ch.of_set (ob := (Value.slice sa seen.length sc).ownBlock) 2 _) (fun _ e => .inl e), .inl ?_⟩
        rw [hBF.out]
        exact ⟨h00.out, rfl, _, n', CC.out, hnn, fun j e => hOB j (by rw [ob_same sa' (seen ++ ys).length seen.length sc' sc']; exact e)⟩
      · have T9 := Lib.hid hthr
        have G9 := Lib.hid h0
        obtain ⟨b9, rfl, q0, q1⟩ := hthr
        clear HRU hb h0 q0 q1
        go_wp2_with fail
        exact ⟨rfl, H2.out, .inr (by rw [hBF.out]; exact ⟨G9.out, T9.out⟩)⟩
theorem items_all : ∀ N, ItmC N
  | 0 => fun _ _ _ _ _ _ _ _ _ _ _ _ _ h => absurd h (Nat.not_lt_zero _)
  | N + 1 => items_step N (items_all N)
end Go.Proofs.YtpnjlmpamincoaaDoor.Tm
