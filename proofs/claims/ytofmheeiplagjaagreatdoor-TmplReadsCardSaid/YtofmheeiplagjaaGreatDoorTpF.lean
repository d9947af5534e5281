/-
  PROVED HERE: the contract of the program's write; the contracts of the program's tmpl.Print and of the document's TmplPrint; the contract of the document's TmplPrint. Conditions: as each theorem states.
-/
import Derived.Test.YtofmheeiplagjaaGreatDoorTpC
import Derived.Test.YtofmheeiplagjaaGreatDoorExpE
import Derived.Test.YtofmheeiplagjaaGreatDoorTmP
import Derived.Deep.RegionHeld3
namespace Go.Proofs.YtofmheeiplagjaaGreatDoor.Tm
open Go.RowKit Go.Proofs.YtofmheeiplagjaaGreatDoor.Lex Go.Proofs.YtofmheeiplagjaaGreatDoor.Dig Go.Proofs.YtofmheeiplagjaaGreatDoor.Bld
theorem cl_take_succ {l : List It} {j : Nat} (h : j < l.length) : cl (l.take j) + ci l[j] ≤ cl l := by
  have h1 := cl_take l (j + 1)
  rw [List.take_succ_eq_append_getElem h, cl_snoc] at h1
  exact h1
def WrP (W0 : World) (b : Nat) (l : List UInt8) (e : Ending) (w' : World) : Prop := e = .returned (.tuple #[]) ∧ Bl w' W0.heap.size b l ∧ Below W0.heap.size W0 w'
def WrC (BL n : Nat) : Prop := ∀ (W0 : World) (l : List It) (va : Value) (b : Nat) (tx : List UInt8) (d : Nat) (w : World), cl l < n → WfL l → ItsAt W0 va l → LH BL W0 → BL ≤ W0.heap.size → Below W0.heap.size W0 w → Bl w W0.heap.size b tx → d + cl l ≤ 5000 → tx.length + cl l * 6000000 ≤ 900000000000 →
  Calls Tryz.prog 49 #[.pointer (some ⟨b, 0, none⟩), va, .int .i64 (d : Nat)] w (WrP W0 b (tx ++ itsL d l))
theorem rest_of {x : It} (h : WfHead x) (e : Ex) (hc : x.count = some e) : x.rule = 0 := by
  by_cases h0 : x.rule = 0
  · exact h0
  · have h1 := h.ruled h0
    have h2 := h.nocnt ⟨.inl h1.1, h1.2⟩
    rw [hc] at h2
    cases h2
theorem ru_1 (f l : ByteArray) : ruL 1 f l = [32, 61, 32, 115, 105, 122, 101, 32] ++ f.data.toList := by
  rw [show ruL 1 f l = [32, 61, 32] ++ [115, 105, 122, 101] ++ [32] ++ f.data.toList ++ lastL 1 f l from rfl, show lastL 1 f l = [] from if_neg (fun h => absurd h.1 (by decide)), List.append_nil]
  rfl
theorem ru_2 (f l : ByteArray) : ruL 2 f l = [32, 61, 32, 99, 111, 117, 110, 116, 32] ++ f.data.toList := by
  rw [show ruL 2 f l = [32, 61, 32] ++ [99, 111, 117, 110, 116] ++ [32] ++ f.data.toList ++ lastL 2 f l from rfl, show lastL 2 f l = [] from if_neg (fun h => absurd h.1 (by decide)), List.append_nil]
  rfl
theorem ru_3 (f : ByteArray) : ruL 3 f f = [32, 61, 32, 99, 104, 101, 99, 107, 32] ++ f.data.toList := by
  rw [show ruL 3 f f = [32, 61, 32] ++ [99, 104, 101, 99, 107] ++ [32] ++ f.data.toList ++ lastL 3 f f from rfl, show lastL 3 f f = [] from if_neg (fun h => h.2 rfl), List.append_nil]
  rfl
theorem ru_4 (f l : ByteArray) (h : l ≠ f) : ruL 3 f l = [32, 61, 32, 99, 104, 101, 99, 107, 32] ++ f.data.toList ++ [32] ++ l.data.toList := by
  rw [show ruL 3 f l = [32, 61, 32] ++ [99, 104, 101, 99, 107] ++ [32] ++ f.data.toList ++ lastL 3 f l from rfl, show lastL 3 f l = 32 :: l.data.toList from if_pos ⟨rfl, h⟩]
  simp only [List.append_assoc]
  rfl
section
variable {BL n : Nat}
set_option maxRecDepth 100000 in
set_option maxHeartbeats 8000000 in
theorem write_run (IH : WrC BL n) : WrC BL (n + 1) := by
  intro W0 l va b tx d w hn hw hv hL hBL hb0 hbl hd hlen
  have HI := Lib.hid IH
  have HW := Lib.hid hw
  have HN := Lib.hid hn
  have HD := Lib.hid hd
  have HL := Lib.hid hL
  have HBL := Lib.hid hBL
  have HLN := Lib.hid hlen
  have HV := Lib.hid hv
  obtain ⟨pa, ca, rfl, hla, ra⟩ := hv
  have RA := Lib.hid ra
  have H0 := Lib.hid hb0
  have HBl := Lib.hid hbl
  have hll : l.length ≤ 5000 := by have := len_cl l; omega
  have hd5 : d ≤ 5000 := by omega
  have CR := Lib.hid (Tryz.strings_Repeat ⟨#[32, 32]⟩ d w (by omega) (by rw [show ByteArray.size ⟨#[32, 32]⟩ = 2 from rfl]; omega))
  have CW := Lib.hid (fun (l : List UInt8) (s : ByteArray) (w : World) (h : Bl w W0.heap.size b l) (hlen : l.length + s.size ≤ 1000000000000) (h0 : Below W0.heap.size W0 w) => writeString_any W0.heap.size b l s w h hlen h0.size)
  clear ra IH hn hw hd hL hBL hlen hb0 hbl
  obtain ⟨R, hR⟩ : ∃ R, tx ++ itsL d l = R := ⟨_, rfl⟩
  rw [hR]
  have HR := Lib.hid hR
  clear hR
  go_enter Tryz.func49, Tryz.ntmps49
  go_wp2_with fail
  refine (CR.out).mono ?_; rintro e w1 ⟨rfl, hb⟩
  have H1 := Lib.hid (H0.out.trans (hb.mono H0.out.size))
  have HB1 := Lib.hid (HBl.out.keep hb)
  clear hb CR
  obtain ⟨pad, hpad⟩ : ∃ p : ByteArray, (⟨(Lib.repeatL (⟨#[32, 32]⟩ : ByteArray).data.toList d).toArray⟩ : ByteArray) = p := ⟨_, rfl⟩
  have HP := Lib.hid (show pad.data.toList = padL d by rw [← hpad]; rfl)
  rw [hpad]
  have hps : pad.size ≤ 10000 := by
    have h1 := padL_len d
    rw [← HP.out] at h1
    have h2 : pad.data.toList.length = pad.size := rfl
    omega
  clear hpad
  go_wp2_with fail
  go_loopw [7, 8, 13] (fun v7 v8 v13 wr => ∃ (j : Nat) (T : List UInt8), v13 = .int .i64 (j : Nat) ∧ j ≤ l.length ∧ Hid (T = tx ++ itsL d (l.take j)) ∧ Hid (Bl wr W0.heap.size b T) ∧ Hid (Below W0.heap.size W0 wr)) (fun _ _ i _ => l.length - (intOf i).toNat)
  case atStart => exact ⟨0, tx, rfl, Nat.zero_le _, Lib.hid (by simp [itsL]), HB1, H1⟩
  case round =>
    clear HB1 H1
    obtain ⟨j, T, rfl, hj, hT, HB, HB0⟩ := hrel
    by_cases hlt : j < l.length
    · have d1 : (j : Int) < (l.length : Int) := by omega
      have i0 : (0 : Int) ≤ (j : Int) := by omega
      obtain ⟨ad, cva, iva, rfl, hca, hia⟩ := rowAt_get l 0 RA.out j hlt
      have hci := cl_take_succ hlt
      have hwx := (wfI_iff _).1 (wfL_mem HW.out _ (List.getElem_mem hlt))
      have hst := itsL_take (d := d) hlt
      have htl : T.length + (1 + cl (l[j]).items) * 6000000 ≤ 900000000000 := by
        have h1 := itsL_len d (l.take j) (wfL_take HW.out j) (by have := cl_take l j; have := HD.out; omega)
        have h2 := HLN.out
        have h3 := cl_items l[j]
        rw [hT.out, List.length_append]
        omega
      rw [Nat.zero_add] at hca
      obtain ⟨x, hx⟩ : ∃ x, l[j] = x := ⟨_, rfl⟩
      rw [hx] at hca hia hci hwx hst htl
      have HS := Lib.hid (show tx ++ itsL d (l.take (j + 1)) = T ++ itL d x by rw [hst, hT.out, List.append_assoc])
      have hcx := cl_items x
      have hia2 := (itAt_iff _ _ _ _).1 hia
      obtain ⟨xp, rfl⟩ := ct_ptr hia2.1
      obtain ⟨s1, s2, s3, rfl⟩ := its_slice hia2.2
      obtain ⟨q0, q1, q2, q3, q4, q5, q6, q7, q8, q9, q10, q11, q12⟩ := x
      have KA := Lib.hid (fun m v h => hca m v h)
      have HX := Lib.hid hwx.1
      have CE := Lib.hid (fun (w : World) (hb : Below W0.heap.size W0 w) (e : Ex) (he : q8 = some e) => expText_any (B := BL) e (.pointer xp) w (hwx.1.sz e he).2 (hwx.1.sz e he).1 (by have := CtAt.below hb hia2.1; rw [show (It.mk q0 q1 q2 q3 q4 q5 q6 q7 q8 q9 q10 q11 q12).count = some e from he] at this; exact this) (HL.out.below HBL.out hb) (Nat.le_trans HBL.out hb.size))
      have CZ := Lib.hid (fun (e : Ex) (he : q8 = some e) => show (textF e).size ≤ 4040000 from by have := ex_len hwx.1.sz; rw [show (It.mk q0 q1 q2 q3 q4 q5 q6 q7 q8 q9 q10 q11 q12).count = some e from he] at this; exact this)
      have CP := Lib.hid (show (q8 = none → xp = none) ∧ (∀ e, q8 = some e → ∃ g, xp = some ⟨g, 0, none⟩) from by
        refine ⟨fun h => ?_, fun e he => ?_⟩
        · have hc' : CtAt W0 q8 (.pointer xp) := hia2.1
          rw [h] at hc'
          have h2 : (Value.pointer xp) = .pointer none := hc'
          injection h2
        · have hc' : CtAt W0 q8 (.pointer xp) := hia2.1
          rw [he] at hc'
          obtain ⟨g, hg⟩ := ptr_of (w := W0) (x := e) hc'
          injection hg with hg
          exact ⟨g, hg⟩)
      have HT := Lib.hid (fun (w : World) (hb : Below W0.heap.size W0 w) (T2 : List UInt8) (h1 : Bl w W0.heap.size b T2) (h2 : T2.length + cl q12 * 6000000 ≤ 900000000000) => HI.out W0 q12 (.slice s1 s2 s3) b T2 (d + 1) w (by have := HN.out; simp only [It.items] at hcx; omega) hwx.2 hia2.2 HL.out HBL.out hb h1 (by have := HD.out; simp only [It.items] at hcx; omega) h2)
      have HLQ := Lib.hid (itsL_len (d + 1) q12 hwx.2 (by have := HD.out; simp only [It.items] at hcx; omega))
      have hk : 1 ≤ q0 ∧ q0 ≤ 4 := hwx.1.kind
      have hn2 : q2.size ≤ 1000 := hwx.1.names.1
      have hn3 : q3.size ≤ 1000 := hwx.1.names.2.1
      have hn10 : q10.size ≤ 1000 := hwx.1.names.2.2.1
      have hn11 : q11.size ≤ 1000 := hwx.1.names.2.2.2
      have HE := Lib.hid (itL_eq d (.mk q0 q1 q2 q3 q4 q5 q6 q7 q8 q9 q10 q11 q12))
      have HE : Hid (itL d (.mk q0 q1 q2 q3 q4 q5 q6 q7 q8 q9 q10 q11 q12) = padL d ++ lineL (.mk q0 q1 q2 q3 q4 q5 q6 q7 q8 q9 q10 q11 q12) ++ [10] ++ (if q0 = 4 then itsL (d + 1) q12 ++ padL d ++ [125, 10] else [])) := HE
      have htl : T.length + (1 + cl q12) * 6000000 ≤ 900000000000 := htl
      unfold WrP at HT
      clear hca hx hia hst hci hcx hwx hia2
      obtain ⟨⟨g1, o1, y1⟩, hA1⟩ : ∃ A, ad.add (j * 13) = A := ⟨_, rfl⟩
      have K0 := Lib.hid (fun (w : World) (hb : Below W0.heap.size W0 w) => show w.cell? ⟨g1, o1, y1⟩ = some (.int .i64 q0) from by rw [← hA1]; exact keepCell hb (KA.out 0 _ rfl))
      have KK := Lib.hid (fun (w : World) (hb : Below W0.heap.size W0 w) (m : Nat) (v : Value) (h : (itVals (.mk q0 q1 q2 q3 q4 q5 q6 q7 q8 q9 q10 q11 q12) (.pointer xp) (.slice s1 s2 s3))[m + 1]? = some v) => show w.cell? ⟨g1, o1 + (m + 1), none⟩ = some v from by
        have := keepCell hb (KA.out (m + 1) v h)
        rw [add_next2, hA1] at this
        exact this)
      clear KA
      have a0 := K0.out wr HB0.out
      go_upto_block 2 with fail
      go_cut [] (fun wx => q0 ≠ 4 ∧ Hid (Bl wx W0.heap.size b (T ++ padL d ++ baseL (.mk q0 q1 q2 q3 q4 q5 q6 q7 q8 q9 q10 q11 q12))) ∧ Hid (Below W0.heap.size W0 wx))
      case first =>
        by_cases h4 : q0 = 4
        · subst h4
          have hct : q8 ≠ none := HX.out.cnt (.inr (.inl rfl))
          obtain ⟨e, he⟩ := Option.ne_none_iff_exists'.1 hct
          obtain ⟨g, rfl⟩ := CP.out.2 e he
          have C := Lib.hid (CE.out wr HB0.out e he)
          have hz := CZ.out e he
          have HE4 := Lib.hid (show itL d (It.mk 4 q1 q2 q3 q4 q5 q6 q7 q8 q9 q10 q11 q12) = padL d ++ ([119, 104, 101, 110, 32] ++ (textF e).data.toList ++ [32, 123]) ++ [10] ++ (itsL (d + 1) q12 ++ padL d ++ [125, 10]) by
            rw [HE.out, if_pos rfl]
            show padL d ++ ([119, 104, 101, 110, 32] ++ ctL q8 ++ [32, 123]) ++ [10] ++ _ = _
            rw [he]
            rfl)
          generalize textF e = te at *
          have a8 : wr.cell? ⟨g1, o1 + 8, none⟩ = some (.pointer (some ⟨g, 0, none⟩)) := KK.out wr HB0.out 7 _ rfl
          have e1 : ¬ (9223372036854775807 < pad.size + 5) := by omega
          have e2 : ¬ (9223372036854775807 < pad.size + 5 + te.size) := by omega
          have e3 : ¬ (9223372036854775807 < pad.size + 5 + te.size + 3) := by omega
          have e4 : ¬ (9223372036854775807 < pad.size + 2) := by omega
          clear hct CE CZ CP HX K0
          go_wp2_with fail
          refine (C.out).mono ?_; rintro e' w2 ⟨rfl, hb⟩
          have B2 := Lib.hid (HB.out.keep hb)
          have H2 := Lib.hid (HB0.out.trans (hb.mono HB0.out.size))
          clear hb C
          obtain ⟨S2, hS2⟩ : ∃ S : ByteArray, pad ++ ⟨#[119, 104, 101, 110, 32]⟩ ++ te ++ ⟨#[32, 123, 10]⟩ = S := ⟨_, rfl⟩
          have hS2z : S2.size ≤ 4060000 := by
            rw [← hS2, ByteArray.size_append, ByteArray.size_append, ByteArray.size_append]
            have z1 : ByteArray.size ⟨#[119, 104, 101, 110, 32]⟩ = 5 := rfl
            have z2 : ByteArray.size ⟨#[32, 123, 10]⟩ = 3 := rfl
            omega
          have hS2l : S2.data.toList = padL d ++ [119, 104, 101, 110, 32] ++ te.data.toList ++ [32, 123, 10] := by
            rw [← hS2, dl_append, dl_append, dl_append, HP.out]
          have W2 := Lib.hid (CW.out T S2 w2 B2.out (by omega) H2.out)
          have HS2 := Lib.hid hS2l
          have hl2 : (T ++ S2.data.toList).length + cl q12 * 6000000 ≤ 900000000000 := by
            rw [List.length_append]
            have : S2.data.toList.length = S2.size := rfl
            omega
          clear hS2l
          go_wp2_with fail
          with_reducible refine (W2.out).mono ?_; rintro e' w3 ⟨rfl, hbl, hb⟩
          have B3 := Lib.hid hbl
          have H3 := Lib.hid (H2.out.trans hb)
          have a12 : w3.cell? ⟨g1, o1 + 12, none⟩ = some (.slice s1 s2 s3) := KK.out w3 H3.out 11 _ rfl
          have CT := Lib.hid (HT.out w3 H3.out _ B3.out hl2)
          obtain ⟨dd, hdd⟩ : ∃ dd, d + 1 = dd := ⟨_, rfl⟩
          rw [hdd] at CT HE4 HLQ
          have hdi : (d : Int) + 1 = (dd : Int) := by omega
          clear hbl hb W2 hS2 HT hdd a8
          go_wp2_with fail
          refine (CT.out).mono ?_; rintro e' w4 ⟨rfl, hbl, hb⟩
          have B4 := Lib.hid hbl
          have H4 := Lib.hid hb
          obtain ⟨T4, hT4⟩ : ∃ T4, T ++ S2.data.toList ++ itsL dd q12 = T4 := ⟨_, rfl⟩
          rw [hT4] at B4
          have hT4z : T4.length ≤ 900000000000 := by
            have h1 := hl2
            have h2 : (itsL dd q12).length ≤ cl q12 * 6000000 := HLQ.out
            rw [← hT4, List.length_append]
            omega
          have W4 := Lib.hid (CW.out T4 (pad ++ ⟨#[125, 10]⟩) w4 B4.out (by rw [ByteArray.size_append]; have : ByteArray.size ⟨#[125, 10]⟩ = 2 := rfl; omega) H4.out)
          have HT4 := Lib.hid hT4
          clear hbl hb CT a12 hT4
          go_wp2_with fail
          with_reducible refine (W4.out).mono ?_; rintro e' w5 ⟨rfl, hbl, hb⟩
          have B5 := Lib.hid hbl
          have H5 := Lib.hid (H4.out.trans hb)
          clear hbl hb W4
          go_wp2_with fail
          go_roundw
          case rel =>
            refine ⟨j + 1, _, by go_num, hlt, Lib.hid ?_, B5, H5⟩
            rw [HS.out, HE4.out, ← HT4.out, HS2.out, dl_append, HP.out]
            simp only [List.append_assoc]
            rfl
          case measure => first | (simp [intOf]; done) | (simp [intOf]; omega)
        · by_cases h1 : q0 = 1
          · subst h1
            have CWd := Lib.hid (word_any g1 o1 y1 q4 q5 q6 wr (HX.out.wide rfl) HX.out.ord (KK.out wr HB0.out 3 _ rfl) (KK.out wr HB0.out 4 _ rfl) (KK.out wr HB0.out 5 _ rfl))
            have hnl := numL_len q4 q5 q6
            clear CE CZ CP HX K0 HT
            go_wp2_with fail
            refine (CWd.out).mono ?_; rintro e' w2 ⟨⟨s, rfl, hs⟩, rfl⟩
            have hsz : s.size ≤ 5 := by rw [← hs] at hnl; exact hnl
            have HSs := Lib.hid hs
            have W2 := Lib.hid (CW.out T (pad ++ s) wr HB.out (by rw [ByteArray.size_append]; omega) HB0.out)
            have e1 : ¬ (9223372036854775807 < pad.size + s.size) := by omega
            clear hs hnl CWd
            go_wp2_with fail
            with_reducible refine (W2.out).mono ?_; rintro e' w3 ⟨rfl, hbl, hb⟩
            have B3 := Lib.hid hbl
            have H3 := Lib.hid (HB0.out.trans hb)
            clear hbl hb W2
            go_wp2_with fail
            go_meet
            refine ⟨by decide, Lib.hid ?_, H3⟩
            rw [show T ++ padL d ++ baseL (It.mk 1 q1 q2 q3 q4 q5 q6 q7 q8 q9 q10 q11 q12) = T ++ (pad ++ s).data.toList by rw [dl_append, HP.out, HSs.out, List.append_assoc]; rfl]
            exact B3.out
          · by_cases h2 : q0 = 2
            · subst h2
              have W2 := Lib.hid (CW.out T (pad ++ ⟨#[98, 121, 116, 101, 115]⟩) wr HB.out (by rw [ByteArray.size_append]; have : ByteArray.size ⟨#[98, 121, 116, 101, 115]⟩ = 5 := rfl; omega) HB0.out)
              have e1 : ¬ (9223372036854775807 < pad.size + 5) := by omega
              clear CE CZ CP HX K0 HT
              go_wp2_with fail
              with_reducible refine (W2.out).mono ?_; rintro e' w3 ⟨rfl, hbl, hb⟩
              have B3 := Lib.hid hbl
              have H3 := Lib.hid (HB0.out.trans hb)
              clear hbl hb W2
              go_wp2_with fail
              go_meet
              refine ⟨by decide, Lib.hid ?_, H3⟩
              rw [show T ++ padL d ++ baseL (It.mk 2 q1 q2 q3 q4 q5 q6 q7 q8 q9 q10 q11 q12) = T ++ (pad ++ (⟨#[98, 121, 116, 101, 115]⟩ : ByteArray)).data.toList by rw [dl_append, HP.out, List.append_assoc]; rfl]
              exact B3.out
            · have h3 : q0 = 3 := by omega
              subst h3
              have a3 : wr.cell? ⟨g1, o1 + 3, none⟩ = some (.string q3) := KK.out wr HB0.out 2 _ rfl
              have W2 := Lib.hid (CW.out T (pad ++ q3) wr HB.out (by rw [ByteArray.size_append]; omega) HB0.out)
              have e1 : ¬ (9223372036854775807 < pad.size + q3.size) := by omega
              clear CE CZ CP HX K0 HT
              go_wp2_with fail
              with_reducible refine (W2.out).mono ?_; rintro e' w3 ⟨rfl, hbl, hb⟩
              have B3 := Lib.hid hbl
              have H3 := Lib.hid (HB0.out.trans hb)
              clear hbl hb W2
              go_wp2_with fail
              go_meet
              refine ⟨by decide, Lib.hid ?_, H3⟩
              rw [show T ++ padL d ++ baseL (It.mk 3 q1 q2 q3 q4 q5 q6 q7 q8 q9 q10 q11 q12) = T ++ (pad ++ q3).data.toList by rw [dl_append, HP.out, List.append_assoc]; rfl]
              exact B3.out
      case rest =>
        clear HB HB0 a0
        obtain ⟨h4, HB, HB0⟩ := hcut
        have h4' : (q0 == 4) = false := by simpa using h4
        have HL4 := Lib.hid (show itL d (.mk q0 q1 q2 q3 q4 q5 q6 q7 q8 q9 q10 q11 q12) = padL d ++ (baseL (.mk q0 q1 q2 q3 q4 q5 q6 q7 q8 q9 q10 q11 q12) ++ (32 :: q2.data.toList) ++ brL q8 ++ ruL q9 q10 q11 ++ [59]) ++ [10] by
          rw [HE.out, if_neg h4, List.append_nil]
          unfold lineL
          rw [if_neg (show ¬ (It.mk q0 q1 q2 q3 q4 q5 q6 q7 q8 q9 q10 q11 q12).kind = 4 from h4)]
          rfl)
        have hline := line_len HX.out
        have hbz : (padL d ++ lineL (.mk q0 q1 q2 q3 q4 q5 q6 q7 q8 q9 q10 q11 q12)).length ≤ 4060000 := by rw [List.length_append, padL_len]; omega
        have hbz : (padL d ++ baseL (.mk q0 q1 q2 q3 q4 q5 q6 q7 q8 q9 q10 q11 q12)).length + q2.size + (brL q8).length + (ruL q9 q10 q11).length + 2 ≤ 4060000 := by
          have e : lineL (.mk q0 q1 q2 q3 q4 q5 q6 q7 q8 q9 q10 q11 q12) = baseL (.mk q0 q1 q2 q3 q4 q5 q6 q7 q8 q9 q10 q11 q12) ++ (32 :: q2.data.toList) ++ brL q8 ++ ruL q9 q10 q11 ++ [59] := by
            unfold lineL
            rw [if_neg (show ¬ (It.mk q0 q1 q2 q3 q4 q5 q6 q7 q8 q9 q10 q11 q12).kind = 4 from h4)]
            rfl
          have h2 : q2.data.toList.length = q2.size := rfl
          rw [e] at hbz
          simp only [List.length_append, List.length_cons, List.length_nil] at hbz ⊢
          omega
        clear HE hline HT K0
        have HR0 := Lib.hid (show ∀ e, q8 = some e → q9 = 0 from fun e he => rest_of HX.out e he)
        have hru : 0 ≤ q9 ∧ q9 ≤ 3 := HX.out.rule
        obtain ⟨TB, hTB⟩ : ∃ X, padL d ++ baseL (.mk q0 q1 q2 q3 q4 q5 q6 q7 q8 q9 q10 q11 q12) = X := ⟨_, rfl⟩
        rw [List.append_assoc, hTB] at HB
        have HL4 := Lib.hid (show itL d (.mk q0 q1 q2 q3 q4 q5 q6 q7 q8 q9 q10 q11 q12) = TB ++ (32 :: q2.data.toList) ++ brL q8 ++ ruL q9 q10 q11 ++ [59, 10] by rw [HL4.out, ← hTB]; simp only [List.append_assoc]; rfl)
        rw [hTB] at hbz
        clear hTB
        have a2 : wc.cell? ⟨g1, o1 + 2, none⟩ = some (.string q2) := KK.out wc HB0.out 1 _ rfl
        have e1 : ¬ (9223372036854775807 < 1 + q2.size) := by omega
        have hT1 : (T ++ TB).length ≤ 900000000000 := by rw [List.length_append]; omega
        have W2 := Lib.hid (CW.out (T ++ TB) (⟨#[32]⟩ ++ q2) wc HB.out (by rw [ByteArray.size_append]; have : ByteArray.size ⟨#[32]⟩ = 1 := rfl; omega) HB0.out)
        go_wp2_with fail
        with_reducible refine (W2.out).mono ?_; rintro e' w2 ⟨rfl, hbl, hb⟩
        have H2 := Lib.hid (HB0.out.trans hb)
        have B2 := Lib.hid (show Bl w2 W0.heap.size b (T ++ TB ++ (32 :: q2.data.toList)) by have := hbl; rw [dl_append] at this; exact this)
        clear hbl hb W2 a2 e1 HB HB0
        obtain ⟨T2, hT2⟩ : ∃ X, T ++ TB ++ (32 :: q2.data.toList) = X := ⟨_, rfl⟩
        rw [hT2] at B2
        have hT2z : T2.length ≤ 900010000000 := by
          rw [← hT2, List.length_append, List.length_cons]
          have h2 : q2.data.toList.length = q2.size := rfl
          omega
        have HT2 := Lib.hid hT2
        clear hT2
        go_upto_block 3 with fail
        go_cut [] (fun wx => Hid (Bl wx W0.heap.size b (T2 ++ (brL q8 ++ ruL q9 q10 q11))) ∧ Hid (Below W0.heap.size W0 wx))
        case first =>
          have a9 : w2.cell? ⟨g1, o1 + 9, none⟩ = some (.int .i64 q9) := KK.out w2 H2.out 8 _ rfl
          have a10 : w2.cell? ⟨g1, o1 + 10, none⟩ = some (.string q10) := KK.out w2 H2.out 9 _ rfl
          have a11 : w2.cell? ⟨g1, o1 + 11, none⟩ = some (.string q11) := KK.out w2 H2.out 10 _ rfl
          cases hq : q8 with
          | some e =>
            obtain ⟨g, rfl⟩ := CP.out.2 e hq
            have hq9 := HR0.out e hq
            subst hq9
            have a8 : w2.cell? ⟨g1, o1 + 8, none⟩ = some (.pointer (some ⟨g, 0, none⟩)) := KK.out w2 H2.out 7 _ rfl
            have C := Lib.hid (CE.out w2 H2.out e hq)
            have hz := CZ.out e hq
            have HE := Lib.hid (show brL q8 ++ ruL 0 q10 q11 = [91] ++ (textF e).data.toList ++ [93] by rw [hq, show ruL 0 q10 q11 = [] from rfl, List.append_nil]; rfl)
            generalize textF e = te at *
            have e1 : ¬ (9223372036854775807 < 1 + te.size) := by omega
            have e2 : ¬ (9223372036854775807 < 1 + te.size + 1) := by omega
            clear CE CZ CP HX HR0
            go_wp2_with fail
            refine (C.out).mono ?_; rintro e' w3 ⟨rfl, hb⟩
            have B3 := Lib.hid (B2.out.keep hb)
            have H3 := Lib.hid (H2.out.trans (hb.mono H2.out.size))
            have W3 := Lib.hid (CW.out T2 (⟨#[91]⟩ ++ te ++ ⟨#[93]⟩) w3 B3.out (by rw [ByteArray.size_append, ByteArray.size_append]; have : ByteArray.size ⟨#[91]⟩ = 1 := rfl; have : ByteArray.size ⟨#[93]⟩ = 1 := rfl; omega) H3.out)
            clear hb C
            go_wp2_with fail
            with_reducible refine (W3.out).mono ?_; rintro e' w4 ⟨rfl, hbl, hb⟩
            have H4 := Lib.hid (H3.out.trans hb)
            have B4 := Lib.hid (show Bl w4 W0.heap.size b (T2 ++ (brL q8 ++ ruL 0 q10 q11)) by rw [HE.out]; have := hbl; rw [dl_append, dl_append] at this; exact this)
            clear hbl hb W3
            go_wp2_with fail
            go_meet
            exact ⟨B4, H4⟩
          | none =>
            obtain rfl := CP.out.1 hq
            have a8 : w2.cell? ⟨g1, o1 + 8, none⟩ = some (.pointer none) := KK.out w2 H2.out 7 _ rfl
            have HE := Lib.hid (show brL q8 ++ ruL q9 q10 q11 = ruL q9 q10 q11 by rw [hq]; rfl)
            clear CE CZ CP HX HR0
            have hr : q9 = 0 ∨ q9 = 1 ∨ q9 = 2 ∨ q9 = 3 := by omega
            rcases hr with rfl | rfl | rfl | rfl
            · have B4 := Lib.hid (show Bl w2.drew W0.heap.size b (T2 ++ (brL q8 ++ ruL 0 q10 q11)) by rw [HE.out, show ruL 0 q10 q11 = [] from rfl, List.append_nil]; exact B2.out.drew)
              go_upto_region 22 with fail
              go_region
              all_goals
                go_wp2_with fail
                go_meet
                exact ⟨B4, Lib.hid H2.out.drew⟩
            · have W3 := Lib.hid (CW.out T2 (⟨#[32, 61, 32, 115, 105, 122, 101, 32]⟩ ++ q10) w2 B2.out (by rw [ByteArray.size_append]; have : ByteArray.size ⟨#[32, 61, 32, 115, 105, 122, 101, 32]⟩ = 8 := rfl; omega) H2.out)
              have e1 : ¬ (9223372036854775807 < 8 + q10.size) := by omega
              go_wp2_with fail
              with_reducible refine (W3.out).mono ?_; rintro e' w4 ⟨rfl, hbl, hb⟩
              have H4 := Lib.hid (H2.out.trans hb)
              have B4 := Lib.hid (show Bl w4 W0.heap.size b (T2 ++ (brL q8 ++ ruL 1 q10 q11)) by
                rw [HE.out, show ruL 1 q10 q11 = [32, 61, 32, 115, 105, 122, 101, 32] ++ q10.data.toList from ru_1 q10 q11]
                have := hbl; rw [dl_append] at this; exact this)
              clear hbl hb W3
              go_wp2_with fail
              go_meet
              exact ⟨B4, H4⟩
            · have W3 := Lib.hid (CW.out T2 (⟨#[32, 61, 32, 99, 111, 117, 110, 116, 32]⟩ ++ q10) w2 B2.out (by rw [ByteArray.size_append]; have : ByteArray.size ⟨#[32, 61, 32, 99, 111, 117, 110, 116, 32]⟩ = 9 := rfl; omega) H2.out)
              have e1 : ¬ (9223372036854775807 < 9 + q10.size) := by omega
              go_wp2_with fail
              with_reducible refine (W3.out).mono ?_; rintro e' w4 ⟨rfl, hbl, hb⟩
              have H4 := Lib.hid (H2.out.trans hb)
              have B4 := Lib.hid (show Bl w4 W0.heap.size b (T2 ++ (brL q8 ++ ruL 2 q10 q11)) by
                rw [HE.out, show ruL 2 q10 q11 = [32, 61, 32, 99, 111, 117, 110, 116, 32] ++ q10.data.toList from ru_2 q10 q11]
                have := hbl; rw [dl_append] at this; exact this)
              clear hbl hb W3
              go_wp2_with fail
              go_meet
              exact ⟨B4, H4⟩
            · by_cases hl : q11 = q10
              · subst hl
                have W3 := Lib.hid (CW.out T2 (⟨#[32, 61, 32, 99, 104, 101, 99, 107, 32]⟩ ++ q11) w2.drew B2.out.drew (by rw [ByteArray.size_append]; have : ByteArray.size ⟨#[32, 61, 32, 99, 104, 101, 99, 107, 32]⟩ = 9 := rfl; omega) H2.out.drew)
                have e1 : ¬ (9223372036854775807 < 9 + q11.size) := by omega
                have e2 : (q11.toList == q11.toList) = true := by simp
                go_upto_region 22 with fail
                go_region
                all_goals
                  go_wp2_with fail
                  with_reducible refine (W3.out).mono ?_; rintro e' w4 ⟨rfl, hbl, hb⟩
                  have H4 := Lib.hid (H2.out.drew.trans hb)
                  have B4 := Lib.hid (show Bl w4 W0.heap.size b (T2 ++ (brL q8 ++ ruL 3 q11 q11)) by
                    rw [HE.out, show ruL 3 q11 q11 = [32, 61, 32, 99, 104, 101, 99, 107, 32] ++ q11.data.toList from ru_3 q11]
                    have := hbl; rw [dl_append] at this; exact this)
                  clear hbl hb W3
                  go_wp2_with fail
                  go_meet
                  exact ⟨B4, H4⟩
              · have e2 : (q11.toList == q10.toList) = false := (Go.Lib.bytes_beq_false_iff _ _).2 hl
                have HE := Lib.hid (HE.out.trans (ru_4 q10 q11 hl))
                have e1 : ¬ (9223372036854775807 < 9 + q10.size) := by omega
                have e3 : ¬ (9223372036854775807 < 9 + q10.size + 1) := by omega
                have e4 : ¬ (9223372036854775807 < 9 + q10.size + 1 + q11.size) := by omega
                have W3 := Lib.hid (fun (w : World) (h : Bl w W0.heap.size b T2) (h0 : Below W0.heap.size W0 w) => CW.out T2 (⟨#[32, 61, 32, 99, 104, 101, 99, 107, 32]⟩ ++ q10 ++ ⟨#[32]⟩ ++ q11) w h (by rw [ByteArray.size_append, ByteArray.size_append, ByteArray.size_append]; have : ByteArray.size ⟨#[32, 61, 32, 99, 104, 101, 99, 107, 32]⟩ = 9 := rfl; have : ByteArray.size ⟨#[32]⟩ = 1 := rfl; omega) h0)
                go_upto_region 22 with fail
                go_region
                all_goals
                  have a9 : w2.drew.cell? ⟨g1, o1 + 9, none⟩ = some (.int .i64 3) := a9
                  have a10 : w2.drew.cell? ⟨g1, o1 + 10, none⟩ = some (.string q10) := a10
                  have a11 : w2.drew.cell? ⟨g1, o1 + 11, none⟩ = some (.string q11) := a11
                  have B2d := Lib.hid B2.out.drew
                  have H2d := Lib.hid H2.out.drew
                  generalize w2.drew = w2d at *
                  go_upto_region 25 with fail
                  go_region_with (go_at_call 48; refine (W3.out _ (by first | exact B2d.out | exact B2d.out.drew) (by first | exact H2d.out | exact H2d.out.drew)).mono ?_; rintro e' w4 ⟨rfl, hbl, hb⟩; have H4 := Lib.hid (show Below W0.heap.size W0 w4 by first | exact H2d.out.trans hb | exact H2d.out.drew.trans hb); have B4 := Lib.hid (show Bl w4 W0.heap.size b (T2 ++ (brL q8 ++ ruL 3 q10 q11)) by rw [HE.out]; have := hbl; rw [dl_append, dl_append, dl_append] at this; exact this); clear hbl hb)
                  all_goals
                    go_wp2_with fail
                    go_meet
                    first
                      | exact ⟨B4, H4⟩
                      | exact ⟨Lib.hid B4.out.drew, Lib.hid H4.out.drew⟩
        case rest =>
          clear B2 H2
          obtain ⟨B5, H5⟩ := hcut
          have hT3 : (T2 ++ (brL q8 ++ ruL q9 q10 q11)).length + 2 ≤ 1000000000000 := by
            rw [List.length_append, List.length_append]
            omega
          have W6 := Lib.hid (CW.out _ ⟨#[59, 10]⟩ wc B5.out (by have : ByteArray.size ⟨#[59, 10]⟩ = 2 := rfl; omega) H5.out)
          clear CE CZ CP HR0 HX
          go_wp2_with fail
          with_reducible refine (W6.out).mono ?_; rintro e' w7 ⟨rfl, hbl, hb⟩
          have H7 := Lib.hid (H5.out.trans hb)
          have B7 := Lib.hid hbl
          clear hbl hb W6
          go_wp2_with fail
          go_roundw
          case rel =>
            refine ⟨j + 1, _, by go_num, hlt, Lib.hid ?_, B7, H7⟩
            rw [HS.out, HL4.out, ← HT2.out]
            simp only [List.append_assoc]
          case measure => first | (simp [intOf]; done) | (simp [intOf]; omega)
    · have d1 : ¬ (j : Int) < (l.length : Int) := by omega
      have hje : l.take j = l := List.take_of_length_le (by omega)
      rw [hje] at hT
      have hTR := hT.out.trans HR.out
      subst hTR
      go_wp2_with fail
      go_end0
      exact ⟨rfl, HB.out, HB0.out⟩
end
/-- The contract of the program's write. -/
theorem write_any (BL : Nat) : ∀ n, WrC BL n
  | 0 => fun _ _ _ _ _ _ _ h => absurd h (Nat.not_lt_zero _)
  | n + 1 => write_run (write_any BL n)
end Go.Proofs.YtofmheeiplagjaaGreatDoor.Tm
namespace Go.Proofs.YtofmheeiplagjaaGreatDoor.Tm
open Go.RowKit Go.Proofs.YtofmheeiplagjaaGreatDoor.Lex Go.Proofs.YtofmheeiplagjaaGreatDoor.Dig Go.Proofs.YtofmheeiplagjaaGreatDoor.Bld
def tyL (t : Ty) : List UInt8 := [115, 116, 114, 117, 99, 116, 32] ++ t.name.data.toList ++ [32, 123, 10] ++ itsL 1 t.items ++ [125, 10]
def tysL (l : List Ty) : List UInt8 := l.flatMap tyL
theorem tysL_take {l : List Ty} {j : Nat} (h : j < l.length) : tysL (l.take (j + 1)) = tysL (l.take j) ++ tyL l[j] := by
  have e := List.take_succ_eq_append_getElem h
  unfold tysL
  rw [e, List.flatMap_append]
  simp only [List.flatMap_cons, List.flatMap_nil, List.append_nil]
/-- What is known of templates. -/
def TyOk (l : List Ty) : Prop := l.length ≤ 8 ∧ ∀ t ∈ l, WfL t.items ∧ t.items.length ≤ 16 ∧ t.name.size ≤ 1000 ∧ cl t.items ≤ 4000
theorem tyL_len {t : Ty} (h : WfL t.items ∧ t.items.length ≤ 16 ∧ t.name.size ≤ 1000 ∧ cl t.items ≤ 4000) : (tyL t).length ≤ 24000010000 := by
  have h1 := itsL_len 1 t.items h.1 (by omega)
  have h2 : t.name.data.toList.length = t.name.size := rfl
  unfold tyL
  simp only [List.length_append, List.length_cons, List.length_nil]
  omega
theorem tysL_len {l : List Ty} (h : ∀ t ∈ l, WfL t.items ∧ t.items.length ≤ 16 ∧ t.name.size ≤ 1000 ∧ cl t.items ≤ 4000) : (tysL l).length ≤ l.length * 24000010000 := by
  induction l with
  | nil => simp [tysL]
  | cons t r ih =>
    have h1 := tyL_len (h t (by simp))
    have h2 := ih (fun x hx => h x (List.mem_cons_of_mem _ hx))
    unfold tysL at h2 ⊢
    rw [List.flatMap_cons, List.length_append, List.length_cons]
    omega
/-- A box of three cells. -/
theorem yb_new (w : World) (vs : List Value) : YB (w.alloc (.cells vs.toArray 50)) w.heap.size vs := heap_alloc_new _ _
theorem YB.lt' {w : World} {X : Nat} {vs : List Value} (h : YB w X vs) : X < w.heap.size := (Array.getElem?_eq_some_iff.1 h).1
section
variable {BL : Nat} {W : World}
set_option maxRecDepth 100000 in
set_option maxHeartbeats 8000000 in
/-- The contract of the program's Print. -/
theorem print_any (l : List Ty) (va : Value) (hv : TysAt W va l) (ho : TyOk l) (hL : LH BL W) (hBL : BL ≤ W.heap.size) : Calls Tryz.prog 18 #[va] W (TtP (tysL l) W) := by
  obtain ⟨pa, ca, rfl, hla, ra⟩ := hv
  have RA := Lib.hid ra
  have HO := Lib.hid ho.2
  have h8 := ho.1
  have HL := Lib.hid hL
  have HBL := Lib.hid hBL
  have B0 := Lib.hid ((Below.refl W.heap.size W).alloc (Nat.le_refl _) (.cells #[.pointer none, .slice none 0 0] 96))
  have K0 := Lib.hid (Bl.new (w := W) (Nat.le_refl W.heap.size))
  have CW := Lib.hid (fun (l : List UInt8) (s : ByteArray) (w : World) (h : Bl w W.heap.size W.heap.size l) (hlen : l.length + s.size ≤ 1000000000000) (h0 : Below W.heap.size W w) => writeString_any W.heap.size W.heap.size l s w h hlen h0.size)
  have CF := Lib.hid (fun (l : List UInt8) (s : ByteArray) (w : World) (h : Bl w W.heap.size W.heap.size l) (hlen : l.length + s.size ≤ 1000000000000) (h0 : Below W.heap.size W w) => writeString_far W.heap.size W.heap.size l s w h hlen h0.size)
  have CS := Lib.hid (fun (l : List UInt8) (w : World) (h : Bl w W.heap.size W.heap.size l) (h0 : Below W.heap.size W w) => string_any W.heap.size W.heap.size l w h h0.size)
  have CI := Lib.hid (fun (t : Ty) (iv : Value) (T : List UInt8) (w : World) (hw : WfL t.items) (hi : ItsAt W iv t.items) (hb : Below W.heap.size W w) (h : Bl w W.heap.size W.heap.size T) (h4 : cl t.items ≤ 4000) (hT : T.length ≤ 800000000000) => write_any BL (cl t.items + 1) W t.items iv W.heap.size T 1 w (Nat.lt_succ_self _) hw hi hL hBL hb h (by omega) (by omega))
  clear ra ho hL hBL
  unfold WrP at CI
  obtain ⟨b, hb⟩ : ∃ b, b = W.heap.size := ⟨_, rfl⟩
  obtain ⟨R, hR⟩ : ∃ R, tysL l = R := ⟨_, rfl⟩
  rw [hR]
  have HR := Lib.hid hR
  clear hR hb b
  go_enter Tryz.func18, Tryz.ntmps18
  go_upto_region 2 with fail
  generalize W.alloc (.cells #[.pointer none, .slice none 0 0] 96) = w0 at *
  go_wp2_with fail
  go_loopw [5, 8] (fun v5 v8 wr => ∃ (j : Nat), v8 = .int .i64 (j : Nat) ∧ j ≤ l.length ∧ Hid (Bl wr W.heap.size W.heap.size (tysL (l.take j))) ∧ Hid (Below W.heap.size W wr)) (fun _ i _ => l.length - (intOf i).toNat)
  case atStart => exact ⟨0, rfl, Nat.zero_le _, K0, B0⟩
  case round =>
    clear K0 B0
    obtain ⟨j, rfl, hj, HB, HB0⟩ := hrel
    by_cases hlt : j < l.length
    · have d1 : (j : Int) < (l.length : Int) := by omega
      have i0 : (0 : Int) ≤ (j : Int) := by omega
      obtain ⟨ad, iv, rfl, r0, r1, r2, hit⟩ := RA.out j hlt
      have htk := HO.out _ (List.getElem_mem hlt)
      have hst := tysL_take hlt
      have hTl : (tysL (l.take j)).length ≤ 300000000000 := by
        have h1 := tysL_len (l := l.take j) (fun t ht => HO.out t (List.mem_of_mem_take ht))
        have h2 : (l.take j).length ≤ 8 := by rw [List.length_take]; omega
        omega
      obtain ⟨T, hT⟩ : ∃ T, tysL (l.take j) = T := ⟨_, rfl⟩
      rw [hT] at HB hst hTl
      obtain ⟨⟨nm, k, its⟩, ht⟩ : ∃ t, l[j] = t := ⟨_, rfl⟩
      rw [ht] at r0 r1 hit htk hst
      have HS := Lib.hid hst
      simp only at r0 r1 hit htk
      have hnm : nm.size ≤ 1000 := htk.2.2.1
      obtain ⟨s1, s2, s3, rfl⟩ := its_slice hit
      have CT := Lib.hid (fun (T : List UInt8) (w : World) (hb : Below W.heap.size W w) (h : Bl w W.heap.size W.heap.size T) (hT : T.length ≤ 800000000000) => CI.out ⟨nm, k, its⟩ (.slice s1 s2 s3) T w htk.1 hit hb h htk.2.2.2 hT)
      have hil := itsL_len 1 its htk.1 (by omega)
      have hi4 : cl its ≤ 4000 := htk.2.2.2
      have a0 := keepCell HB0.out r0
      have a1 := keepCell HB0.out r1
      have a2 := keepCell HB0.out r2
      rw [Nat.add_zero] at a0
      rw [add_next2 ad (j * 3) 0] at a1
      rw [add_next2 ad (j * 3) 1] at a2
      clear r0 r1 r2 hit htk hst ht hT
      obtain ⟨⟨g1, o1, y1⟩, hA1⟩ : ∃ A, ad.add (j * 3) = A := ⟨_, rfl⟩
      rw [hA1] at a0 a1 a2
      simp only [Nat.zero_add] at a1 a2
      go_upto_region 5 with fail
      have B5 := Lib.hid (HB0.out.alloc HB0.out.size (.cells #[.string nm, .int .i64 (k : Nat), .slice s1 s2 s3] 50))
      have K5 := Lib.hid (HB.out.keep ((Below.refl wr.heap.size wr).alloc (Nat.le_refl _) (.cells #[.string nm, .int .i64 (k : Nat), .slice s1 s2 s3] 50)))
      have I5 := Lib.hid (yb_new wr [.string nm, .int .i64 (k : Nat), .slice s1 s2 s3])
      have I5 : Hid (YB (wr.alloc (.cells #[.string nm, .int .i64 (k : Nat), .slice s1 s2 s3] 50)) wr.heap.size [.string nm, .int .i64 (k : Nat), .slice s1 s2 s3]) := I5
      have NB := Lib.hid (HB.out.nb (.cells #[.string nm, .int .i64 (k : Nat), .slice s1 s2 s3] 50))
      have hXb : W.heap.size < wr.heap.size := HB.out.lt
      clear a0 a1 a2 HB HB0 hA1
      generalize wr.alloc (.cells #[.string nm, .int .i64 (k : Nat), .slice s1 s2 s3] 50) = w5 at *
      obtain ⟨X, hX⟩ : ∃ X, wr.heap.size = X := ⟨_, rfl⟩
      rw [hX] at I5 NB hXb ⊢
      have hXl := I5.out.lt'
      have c0 : w5.cell? ⟨X, 0, none⟩ = some (.string nm) := I5.out.cell 0
      have c2 : w5.cell? ⟨X, 2, none⟩ = some (.slice s1 s2 s3) := I5.out.cell 2
      have e1 : ¬ (9223372036854775807 < 7 + nm.size) := by omega
      have e2 : ¬ (9223372036854775807 < 7 + nm.size + 3) := by omega
      have HTL := Lib.hid (show tyL ⟨nm, k, its⟩ = ((⟨#[115, 116, 114, 117, 99, 116, 32]⟩ : ByteArray) ++ nm ++ ⟨#[32, 123, 10]⟩).data.toList ++ itsL 1 its ++ [125, 10] by rw [dl_append, dl_append]; rfl)
      have hsz : ((⟨#[115, 116, 114, 117, 99, 116, 32]⟩ : ByteArray) ++ nm ++ ⟨#[32, 123, 10]⟩).size ≤ 1010 := by
        rw [ByteArray.size_append, ByteArray.size_append]
        have z1 : ByteArray.size ⟨#[115, 116, 114, 117, 99, 116, 32]⟩ = 7 := rfl
        have z2 : ByteArray.size ⟨#[32, 123, 10]⟩ = 3 := rfl
        omega
      obtain ⟨S, hS⟩ : ∃ S : ByteArray, (⟨#[115, 116, 114, 117, 99, 116, 32]⟩ : ByteArray) ++ nm ++ ⟨#[32, 123, 10]⟩ = S := ⟨_, rfl⟩
      rw [hS] at HTL hsz
      have W5 := Lib.hid (CF.out T S w5 K5.out (by omega) B5.out)
      have hSl : S.data.toList.length = S.size := rfl
      go_wp2_with fail
      with_reducible refine (W5.out).mono ?_; rintro e w6 ⟨rfl, hbl, hb, hf⟩
      have B6 := Lib.hid (B5.out.trans hb)
      have K6 := Lib.hid hbl
      have k2 : w6.cell? ⟨X, 2, none⟩ = some (.slice s1 s2 s3) := (World.cell?_of_block (a := ⟨X, 2, none⟩) (hf X hXl (by omega) NB.out)).trans c2
      have C6 := Lib.hid (CT.out _ w6 B6.out K6.out (by rw [List.length_append]; omega))
      clear hbl hb hf W5 c0 c2 hS e1 e2
      go_wp2_with fail
      refine (C6.out).mono ?_; rintro e w7 ⟨rfl, hbl, hb⟩
      have B7 := Lib.hid hb
      have K7 := Lib.hid hbl
      have W7 := Lib.hid (CW.out _ ⟨#[125, 10]⟩ w7 K7.out (by rw [List.length_append, List.length_append]; have : ByteArray.size ⟨#[125, 10]⟩ = 2 := rfl; omega) B7.out)
      clear hbl hb C6
      go_wp2_with fail
      with_reducible refine (W7.out).mono ?_; rintro e w8 ⟨rfl, hbl, hb⟩
      have B8 := Lib.hid (B7.out.trans hb)
      have K8 := Lib.hid hbl
      clear hbl hb W7
      go_wp2_with fail
      go_roundw
      case rel =>
        refine ⟨j + 1, by go_num, hlt, Lib.hid ?_, B8⟩
        rw [HS.out, HTL.out]
        have := K8.out
        simp only [List.append_assoc] at this ⊢
        exact this
      case measure => first | (simp [intOf]; done) | (simp [intOf]; omega)
    · have d1 : ¬ (j : Int) < (l.length : Int) := by omega
      have hje : l.take j = l := List.take_of_length_le (by omega)
      rw [hje, HR.out] at HB
      have C := Lib.hid (CS.out R wr HB.out HB0.out)
      go_wp2_with fail
      refine (C.out).mono ?_; rintro e w2 ⟨rfl, hb⟩
      have H2 := Lib.hid (HB0.out.trans hb)
      clear hb
      go_wp2_with fail
      go_ret
      exact ⟨⟨_, rfl, rfl⟩, H2.out⟩
end
end Go.Proofs.YtofmheeiplagjaaGreatDoor.Tm
namespace Go.Proofs.YtofmheeiplagjaaGreatDoor.Tm
open Go.RowKit Go.Proofs.YtofmheeiplagjaaGreatDoor.Lex Go.Proofs.YtofmheeiplagjaaGreatDoor.Dig
section
variable {W : World}
set_option maxRecDepth 100000 in
set_option maxHeartbeats 8000000 in
/-- The contract of the document's TmplPrint. -/
theorem docPrint_any (l : List Ty) (va : Value) (hv : TysAt W va l) (ho : TyOk l) : Calls Tryz.prog 19 #[va] W (TtP (tysL l) W) := by
  obtain ⟨pa, ca, rfl, hla, ra⟩ := hv
  have RA := Lib.hid ra
  have HO := Lib.hid ho.2
  have h8 := ho.1
  clear ra ho
  go_enter Tryz.func19, Tryz.ntmps19
  go_wp2_with fail
  go_loopw [3, 5, 8] (fun v3 v5 v8 wr => ∃ (j : Nat) (s : ByteArray), v3 = .string s ∧ v8 = .int .i64 (j : Nat) ∧ j ≤ l.length ∧ Hid (s.data.toList = tysL (l.take j)) ∧ Hid (Below W.heap.size W wr)) (fun _ _ i _ => l.length - (intOf i).toNat)
  case atStart => exact ⟨0, ⟨#[]⟩, rfl, rfl, Nat.zero_le _, Lib.hid (by simp [tysL]), Lib.hid (Below.refl _ _)⟩
  case round =>
    obtain ⟨j, s, rfl, rfl, hj, hs, HB0⟩ := hrel
    by_cases hlt : j < l.length
    · have d1 : (j : Int) < (l.length : Int) := by omega
      have i0 : (0 : Int) ≤ (j : Int) := by omega
      obtain ⟨ad, iv, rfl, r0, r1, r2, hit⟩ := RA.out j hlt
      have htk := HO.out _ (List.getElem_mem hlt)
      have hst := tysL_take hlt
      have hTl : s.size ≤ 300000000000 := by
        have h1 := tysL_len (l := l.take j) (fun t ht => HO.out t (List.mem_of_mem_take ht))
        have h2 : (l.take j).length ≤ 8 := by rw [List.length_take]; omega
        have h3 : s.data.toList.length = s.size := rfl
        rw [← hs.out] at h1
        omega
      rw [← hs.out] at hst
      obtain ⟨⟨nm, k, its⟩, ht⟩ : ∃ t, l[j] = t := ⟨_, rfl⟩
      rw [ht] at r0 r1 hit htk hst
      have HS := Lib.hid hst
      simp only at r0 r1 hit htk
      have hnm : nm.size ≤ 1000 := htk.2.2.1
      obtain ⟨s1, s2, s3, rfl⟩ := its_slice hit
      have CT := Lib.hid (fun (w : World) (hb : Below W.heap.size W w) => docTexts_any (cl its + 1) its (.slice s1 s2 s3) 1 ⟨#[32, 32]⟩ w (Nat.lt_succ_self _) htk.1 (hit.below' hb) rfl (by have h4 : cl its ≤ 4000 := htk.2.2.2; omega))
      unfold TtP at CT
      have hil := itsL_len 1 its htk.1 (by have h4 : cl its ≤ 4000 := htk.2.2.2; omega)
      have hi4 : cl its ≤ 4000 := htk.2.2.2
      have a0 := keepCell HB0.out r0
      have a1 := keepCell HB0.out r1
      have a2 := keepCell HB0.out r2
      rw [Nat.add_zero] at a0
      rw [add_next2 ad (j * 3) 0] at a1
      rw [add_next2 ad (j * 3) 1] at a2
      clear r0 r1 r2 hit htk hst ht hs
      obtain ⟨⟨g1, o1, y1⟩, hA1⟩ : ∃ A, ad.add (j * 3) = A := ⟨_, rfl⟩
      rw [hA1] at a0 a1 a2
      simp only [Nat.zero_add] at a1 a2
      go_upto_region 5 with fail
      have B5 := Lib.hid (HB0.out.alloc HB0.out.size (.cells #[.string nm, .int .i64 (k : Nat), .slice s1 s2 s3] 50))
      have I5 := Lib.hid (yb_new wr [.string nm, .int .i64 (k : Nat), .slice s1 s2 s3])
      have I5 : Hid (YB (wr.alloc (.cells #[.string nm, .int .i64 (k : Nat), .slice s1 s2 s3] 50)) wr.heap.size [.string nm, .int .i64 (k : Nat), .slice s1 s2 s3]) := I5
      clear a0 a1 a2 HB0 hA1
      generalize wr.alloc (.cells #[.string nm, .int .i64 (k : Nat), .slice s1 s2 s3] 50) = w5 at *
      obtain ⟨X, hX⟩ : ∃ X, wr.heap.size = X := ⟨_, rfl⟩
      rw [hX] at I5 ⊢
      have c0 : w5.cell? ⟨X, 0, none⟩ = some (.string nm) := I5.out.cell 0
      have c2 : w5.cell? ⟨X, 2, none⟩ = some (.slice s1 s2 s3) := I5.out.cell 2
      have HTL := Lib.hid (show tyL ⟨nm, k, its⟩ = [115, 116, 114, 117, 99, 116, 32] ++ nm.data.toList ++ [32, 123, 10] ++ itsL 1 its ++ [125, 10] from rfl)
      have HQ := Lib.hid (fun (u : ByteArray) (hu : u.data.toList = itsL 1 its) => show u.size ≤ 30000000000 from by
        rw [← hu] at hil
        have : u.data.toList.length = u.size := rfl
        omega)
      have e1 : ¬ (9223372036854775807 < 7 + nm.size) := by omega
      have e2 : ¬ (9223372036854775807 < 7 + nm.size + 3) := by omega
      have KK := Lib.hid (fun (w' : World) (hb : Below w5.heap.size w5 w') => (show w'.cell? ⟨X, 0, none⟩ = some (.string nm) ∧ w'.cell? ⟨X, 2, none⟩ = some (.slice s1 s2 s3) from ⟨keepCell hb c0, keepCell hb c2⟩))
      have HX : Hid (Below w5.heap.size w5 w5) := Lib.hid (Below.refl _ _)
      go_region_held3 (fun w' => w'.cell? ⟨X, 0, none⟩ = some (.string nm) ∧ w'.cell? ⟨X, 2, none⟩ = some (.slice s1 s2 s3))
        (first | exact KK.out _ HX.out | exact KK.out _ HX.out.drew)
        (first
          | (go_at_call 51; refine (CT.out _ (by first | exact B5.out.trans (HX.out.mono B5.out.size) | exact B5.out.trans (HX.out.drew.mono B5.out.size))).mono ?_; rintro e w6 ⟨⟨u, rfl, hu⟩, hb⟩; have hz := HQ.out u hu; have HU := Lib.hid hu; have e3 : ¬ (9223372036854775807 < 7 + nm.size + 3 + u.size) := (by omega); have e4 : ¬ (9223372036854775807 < 7 + nm.size + 3 + u.size + 2) := (by omega); have e5 : ¬ (9223372036854775807 < s.size + (7 + nm.size + 3 + u.size + 2)) := (by omega); have HX : Hid (Below w5.heap.size w5 w6) := Lib.hid (by first | exact HX.out.trans (hb.mono HX.out.size) | exact HX.out.drew.trans (hb.mono HX.out.size)); clear hb hu))
      all_goals
        have B8 := Lib.hid (B5.out.trans (HX.out.mono B5.out.size))
        go_wp2_with fail
        go_roundw
        case rel =>
          refine ⟨j + 1, _, rfl, by go_num, hlt, Lib.hid ?_, by first | exact B8 | exact Lib.hid B8.out.drew⟩
          rw [HS.out, HTL.out, ← HU.out]
          simp only [dl_append, List.append_assoc]
        case measure => first | (simp [intOf]; done) | (simp [intOf]; omega)
    · have d1 : ¬ (j : Int) < (l.length : Int) := by omega
      have hje : l.take j = l := List.take_of_length_le (by omega)
      rw [hje] at hs
      go_wp2_with fail
      go_ret
      exact ⟨⟨_, rfl, hs.out⟩, HB0.out⟩
end
end Go.Proofs.YtofmheeiplagjaaGreatDoor.Tm
