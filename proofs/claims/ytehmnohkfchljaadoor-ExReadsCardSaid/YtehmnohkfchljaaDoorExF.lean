/-
  PROVED HERE: the document's map of forms, made and asked. Conditions: as each theorem states.
-/
import Derived.Test.YtehmnohkfchljaaDoorExE
namespace Go.Proofs.YtehmnohkfchljaaDoor.Ex
open Go.RowKit Go.WideMaps Go.Maps
theorem keyedS : Keyed Tryd.prog 9 := string_keyed Tryd.underlying9
theorem zeroS (w : World) : (zeroValue 9).run Tryd.prog w = .ok (.string ⟨#[]⟩) w := by kernel_rfl
abbrev OM (w : World) (b n : Nat) (D : DataW Unit) : Prop := w.ownsMap Tryd.prog 9 (plainElem Tryd.prog 9) b n D
def pu (D : DataW Unit) (k v : List UInt8) : DataW Unit := D.put (.string k) (.lit (.string v))
theorem put_run {w : World} {b n : Nat} {D : DataW Unit} (h : OM w b n D) (hn : n ≤ 20) (k v : ByteArray) (hk : k.size ≤ 10) (hv : v.size ≤ 10) :
    ∃ w', (Instr.mapUpdate 41 (.map (some b)) (.string k) (.string v)).run Tryd.prog w = .ok () w' ∧ OM w' b (n + 1) (pu D k.data.toList v.data.toList) ∧ w.grownBy w' (some b) :=
  h.update keyedS Tryd.underlying41 (by unfold maxLen; omega) (keyOf_string_mk Tryd.underlying9 (s := k) (by unfold maxLen; omega)) (plainElem_string Tryd.underlying9 (s := v) (by unfold maxLen; omega))
def D0 : DataW Unit := .map []
def D1 : DataW Unit := pu D0 [100] [78, 78]
def D2 : DataW Unit := pu D1 [121] [78, 78]
def D3 : DataW Unit := pu D2 [102, 105, 108, 108] [78, 78, 66]
def D4 : DataW Unit := pu D3 [115] [66, 66]
def D5 : DataW Unit := pu D4 [115, 101, 116] [80, 78]
def D6 : DataW Unit := pu D5 [112, 117, 116] [80, 66]
def D7 : DataW Unit := pu D6 [100, 117, 112] [80]
def D8 : DataW Unit := pu D7 [100, 114, 111, 112] [80]
def D9 : DataW Unit := pu D8 [102, 105, 120] []
def D10 : DataW Unit := pu D9 [117, 110, 100, 111] [78]
def D11 : DataW Unit := pu D10 [102, 111, 114, 99, 101] [78, 78]
theorem pu_map {D : DataW Unit} (h : IsMap D) (k v : List UInt8) : IsMap (pu D k v) := h.put _ _
theorem pu_same {D : DataW Unit} (h : IsMap D) (k v : List UInt8) : (pu D k v).atKey (.string k) (.lit (.string [])) = .lit (.string v) ∧ has (pu D k v) (.string k) = true := ⟨atKey_put_same h (by trivial) _ _, has_put_same h (by trivial) _⟩
theorem pu_other {D : DataW Unit} {k l : List UInt8} (v : List UInt8) (h : l ≠ k) : (pu D k v).atKey (.string l) (.lit (.string [])) = D.atKey (.string l) (.lit (.string [])) ∧ has (pu D k v) (.string l) = has D (.string l) := ⟨atKey_put_other (fun e => h (by injection e)) _ _, has_put_other (fun e => h (by injection e)) _⟩
theorem m0 : IsMap D0 := isMap_empty
theorem m1 : IsMap D1 := pu_map m0 _ _
theorem m2 : IsMap D2 := pu_map m1 _ _
theorem m3 : IsMap D3 := pu_map m2 _ _
theorem m4 : IsMap D4 := pu_map m3 _ _
theorem m5 : IsMap D5 := pu_map m4 _ _
theorem m6 : IsMap D6 := pu_map m5 _ _
theorem m7 : IsMap D7 := pu_map m6 _ _
theorem m8 : IsMap D8 := pu_map m7 _ _
theorem m9 : IsMap D9 := pu_map m8 _ _
theorem m10 : IsMap D10 := pu_map m9 _ _
theorem m11 : IsMap D11 := pu_map m10 _ _
/-- What the map tells of a word. -/
def fsl (l : List UInt8) : List UInt8 := match frm l with | none => [] | some ks => ks.map ld
theorem fsl_is (l : List UInt8) : (⟨(fsl l).toArray⟩ : ByteArray) = fmS ld (frm l) := by unfold fsl fmS; cases frm l <;> rfl
theorem forms_at (l : List UInt8) : D11.atKey (.string l) (.lit (.string [])) = .lit (.string (fsl l)) ∧ has D11 (.string l) = (frm l).isSome := by
  by_cases h11 : l = [102, 111, 114, 99, 101]
  · subst h11
    have s := pu_same m10 [102, 111, 114, 99, 101] [78, 78]
    exact ⟨s.1, s.2⟩
  by_cases h10 : l = [117, 110, 100, 111]
  · subst h10
    have o11 := pu_other (D := D10) [78, 78] h11
    have s := pu_same m9 [117, 110, 100, 111] [78]
    exact ⟨o11.1.trans (s.1), o11.2.trans (s.2)⟩
  by_cases h9 : l = [102, 105, 120]
  · subst h9
    have o11 := pu_other (D := D10) [78, 78] h11
    have o10 := pu_other (D := D9) [78] h10
    have s := pu_same m8 [102, 105, 120] []
    exact ⟨o11.1.trans (o10.1.trans (s.1)), o11.2.trans (o10.2.trans (s.2))⟩
  by_cases h8 : l = [100, 114, 111, 112]
  · subst h8
    have o11 := pu_other (D := D10) [78, 78] h11
    have o10 := pu_other (D := D9) [78] h10
    have o9 := pu_other (D := D8) [] h9
    have s := pu_same m7 [100, 114, 111, 112] [80]
    exact ⟨o11.1.trans (o10.1.trans (o9.1.trans (s.1))), o11.2.trans (o10.2.trans (o9.2.trans (s.2)))⟩
  by_cases h7 : l = [100, 117, 112]
  · subst h7
    have o11 := pu_other (D := D10) [78, 78] h11
    have o10 := pu_other (D := D9) [78] h10
    have o9 := pu_other (D := D8) [] h9
    have o8 := pu_other (D := D7) [80] h8
    have s := pu_same m6 [100, 117, 112] [80]
    exact ⟨o11.1.trans (o10.1.trans (o9.1.trans (o8.1.trans (s.1)))), o11.2.trans (o10.2.trans (o9.2.trans (o8.2.trans (s.2))))⟩
  by_cases h6 : l = [112, 117, 116]
  · subst h6
    have o11 := pu_other (D := D10) [78, 78] h11
    have o10 := pu_other (D := D9) [78] h10
    have o9 := pu_other (D := D8) [] h9
    have o8 := pu_other (D := D7) [80] h8
    have o7 := pu_other (D := D6) [80] h7
    have s := pu_same m5 [112, 117, 116] [80, 66]
    exact ⟨o11.1.trans (o10.1.trans (o9.1.trans (o8.1.trans (o7.1.trans (s.1))))), o11.2.trans (o10.2.trans (o9.2.trans (o8.2.trans (o7.2.trans (s.2)))))⟩
  by_cases h5 : l = [115, 101, 116]
  · subst h5
    have o11 := pu_other (D := D10) [78, 78] h11
    have o10 := pu_other (D := D9) [78] h10
    have o9 := pu_other (D := D8) [] h9
    have o8 := pu_other (D := D7) [80] h8
    have o7 := pu_other (D := D6) [80] h7
    have o6 := pu_other (D := D5) [80, 66] h6
    have s := pu_same m4 [115, 101, 116] [80, 78]
    exact ⟨o11.1.trans (o10.1.trans (o9.1.trans (o8.1.trans (o7.1.trans (o6.1.trans (s.1)))))), o11.2.trans (o10.2.trans (o9.2.trans (o8.2.trans (o7.2.trans (o6.2.trans (s.2))))))⟩
  by_cases h4 : l = [115]
  · subst h4
    have o11 := pu_other (D := D10) [78, 78] h11
    have o10 := pu_other (D := D9) [78] h10
    have o9 := pu_other (D := D8) [] h9
    have o8 := pu_other (D := D7) [80] h8
    have o7 := pu_other (D := D6) [80] h7
    have o6 := pu_other (D := D5) [80, 66] h6
    have o5 := pu_other (D := D4) [80, 78] h5
    have s := pu_same m3 [115] [66, 66]
    exact ⟨o11.1.trans (o10.1.trans (o9.1.trans (o8.1.trans (o7.1.trans (o6.1.trans (o5.1.trans (s.1))))))), o11.2.trans (o10.2.trans (o9.2.trans (o8.2.trans (o7.2.trans (o6.2.trans (o5.2.trans (s.2)))))))⟩
  by_cases h3 : l = [102, 105, 108, 108]
  · subst h3
    have o11 := pu_other (D := D10) [78, 78] h11
    have o10 := pu_other (D := D9) [78] h10
    have o9 := pu_other (D := D8) [] h9
    have o8 := pu_other (D := D7) [80] h8
    have o7 := pu_other (D := D6) [80] h7
    have o6 := pu_other (D := D5) [80, 66] h6
    have o5 := pu_other (D := D4) [80, 78] h5
    have o4 := pu_other (D := D3) [66, 66] h4
    have s := pu_same m2 [102, 105, 108, 108] [78, 78, 66]
    exact ⟨o11.1.trans (o10.1.trans (o9.1.trans (o8.1.trans (o7.1.trans (o6.1.trans (o5.1.trans (o4.1.trans (s.1)))))))), o11.2.trans (o10.2.trans (o9.2.trans (o8.2.trans (o7.2.trans (o6.2.trans (o5.2.trans (o4.2.trans (s.2))))))))⟩
  by_cases h2 : l = [121]
  · subst h2
    have o11 := pu_other (D := D10) [78, 78] h11
    have o10 := pu_other (D := D9) [78] h10
    have o9 := pu_other (D := D8) [] h9
    have o8 := pu_other (D := D7) [80] h8
    have o7 := pu_other (D := D6) [80] h7
    have o6 := pu_other (D := D5) [80, 66] h6
    have o5 := pu_other (D := D4) [80, 78] h5
    have o4 := pu_other (D := D3) [66, 66] h4
    have o3 := pu_other (D := D2) [78, 78, 66] h3
    have s := pu_same m1 [121] [78, 78]
    exact ⟨o11.1.trans (o10.1.trans (o9.1.trans (o8.1.trans (o7.1.trans (o6.1.trans (o5.1.trans (o4.1.trans (o3.1.trans (s.1))))))))), o11.2.trans (o10.2.trans (o9.2.trans (o8.2.trans (o7.2.trans (o6.2.trans (o5.2.trans (o4.2.trans (o3.2.trans (s.2)))))))))⟩
  by_cases h1 : l = [100]
  · subst h1
    have o11 := pu_other (D := D10) [78, 78] h11
    have o10 := pu_other (D := D9) [78] h10
    have o9 := pu_other (D := D8) [] h9
    have o8 := pu_other (D := D7) [80] h8
    have o7 := pu_other (D := D6) [80] h7
    have o6 := pu_other (D := D5) [80, 66] h6
    have o5 := pu_other (D := D4) [80, 78] h5
    have o4 := pu_other (D := D3) [66, 66] h4
    have o3 := pu_other (D := D2) [78, 78, 66] h3
    have o2 := pu_other (D := D1) [78, 78] h2
    have s := pu_same m0 [100] [78, 78]
    exact ⟨o11.1.trans (o10.1.trans (o9.1.trans (o8.1.trans (o7.1.trans (o6.1.trans (o5.1.trans (o4.1.trans (o3.1.trans (o2.1.trans (s.1)))))))))), o11.2.trans (o10.2.trans (o9.2.trans (o8.2.trans (o7.2.trans (o6.2.trans (o5.2.trans (o4.2.trans (o3.2.trans (o2.2.trans (s.2))))))))))⟩
  have hf : frm l = none := by simp [frm, h1, h2, h3, h4, h5, h6, h7, h8, h9, h10, h11]
  have o11 := pu_other (D := D10) [78, 78] h11
  have o10 := pu_other (D := D9) [78] h10
  have o9 := pu_other (D := D8) [] h9
  have o8 := pu_other (D := D7) [80] h8
  have o7 := pu_other (D := D6) [80] h7
  have o6 := pu_other (D := D5) [80, 66] h6
  have o5 := pu_other (D := D4) [80, 78] h5
  have o4 := pu_other (D := D3) [66, 66] h4
  have o3 := pu_other (D := D2) [78, 78, 66] h3
  have o2 := pu_other (D := D1) [78, 78] h2
  have o1 := pu_other (D := D0) [78, 78] h1
  unfold fsl
  rw [hf]
  exact ⟨o11.1.trans (o10.1.trans (o9.1.trans (o8.1.trans (o7.1.trans (o6.1.trans (o5.1.trans (o4.1.trans (o3.1.trans (o2.1.trans (o1.1.trans (rfl))))))))))), o11.2.trans (o10.2.trans (o9.2.trans (o8.2.trans (o7.2.trans (o6.2.trans (o5.2.trans (o4.2.trans (o3.2.trans (o2.2.trans (o1.2.trans (rfl)))))))))))⟩
theorem forms_made (w : World) (b : Nat) (h : OM w b 0 D0) (x : ByteArray) (hx : x.size ≤ 1000) :
    ∃ w1 w2 w3 w4 w5 w6 w7 w8 w9 w10 w11 : World,
      (Instr.mapUpdate 41 (.map (some b)) (.string ⟨#[100]⟩) (.string ⟨#[78, 78]⟩)).run Tryd.prog w = .ok () w1 ∧
      (Instr.mapUpdate 41 (.map (some b)) (.string ⟨#[121]⟩) (.string ⟨#[78, 78]⟩)).run Tryd.prog w1 = .ok () w2 ∧
      (Instr.mapUpdate 41 (.map (some b)) (.string ⟨#[102, 105, 108, 108]⟩) (.string ⟨#[78, 78, 66]⟩)).run Tryd.prog w2 = .ok () w3 ∧
      (Instr.mapUpdate 41 (.map (some b)) (.string ⟨#[115]⟩) (.string ⟨#[66, 66]⟩)).run Tryd.prog w3 = .ok () w4 ∧
      (Instr.mapUpdate 41 (.map (some b)) (.string ⟨#[115, 101, 116]⟩) (.string ⟨#[80, 78]⟩)).run Tryd.prog w4 = .ok () w5 ∧
      (Instr.mapUpdate 41 (.map (some b)) (.string ⟨#[112, 117, 116]⟩) (.string ⟨#[80, 66]⟩)).run Tryd.prog w5 = .ok () w6 ∧
      (Instr.mapUpdate 41 (.map (some b)) (.string ⟨#[100, 117, 112]⟩) (.string ⟨#[80]⟩)).run Tryd.prog w6 = .ok () w7 ∧
      (Instr.mapUpdate 41 (.map (some b)) (.string ⟨#[100, 114, 111, 112]⟩) (.string ⟨#[80]⟩)).run Tryd.prog w7 = .ok () w8 ∧
      (Instr.mapUpdate 41 (.map (some b)) (.string ⟨#[102, 105, 120]⟩) (.string ⟨#[]⟩)).run Tryd.prog w8 = .ok () w9 ∧
      (Instr.mapUpdate 41 (.map (some b)) (.string ⟨#[117, 110, 100, 111]⟩) (.string ⟨#[78]⟩)).run Tryd.prog w9 = .ok () w10 ∧
      (Instr.mapUpdate 41 (.map (some b)) (.string ⟨#[102, 111, 114, 99, 101]⟩) (.string ⟨#[78, 78]⟩)).run Tryd.prog w10 = .ok () w11 ∧
      (Instr.lookup 41 (.map (some b)) (.string x) true).run Tryd.prog w11 = .ok (.tuple #[.string (fmS ld (frm x.toList)), .bool (frm x.toList).isSome]) w11 ∧ w.grownBy w11 (some b) := by
  obtain ⟨w1, e1, q1, g1⟩ := put_run h (by omega) ⟨#[100]⟩ ⟨#[78, 78]⟩ (by decide) (by decide)
  obtain ⟨w2, e2, q2, g2⟩ := put_run q1 (by omega) ⟨#[121]⟩ ⟨#[78, 78]⟩ (by decide) (by decide)
  obtain ⟨w3, e3, q3, g3⟩ := put_run q2 (by omega) ⟨#[102, 105, 108, 108]⟩ ⟨#[78, 78, 66]⟩ (by decide) (by decide)
  obtain ⟨w4, e4, q4, g4⟩ := put_run q3 (by omega) ⟨#[115]⟩ ⟨#[66, 66]⟩ (by decide) (by decide)
  obtain ⟨w5, e5, q5, g5⟩ := put_run q4 (by omega) ⟨#[115, 101, 116]⟩ ⟨#[80, 78]⟩ (by decide) (by decide)
  obtain ⟨w6, e6, q6, g6⟩ := put_run q5 (by omega) ⟨#[112, 117, 116]⟩ ⟨#[80, 66]⟩ (by decide) (by decide)
  obtain ⟨w7, e7, q7, g7⟩ := put_run q6 (by omega) ⟨#[100, 117, 112]⟩ ⟨#[80]⟩ (by decide) (by decide)
  obtain ⟨w8, e8, q8, g8⟩ := put_run q7 (by omega) ⟨#[100, 114, 111, 112]⟩ ⟨#[80]⟩ (by decide) (by decide)
  obtain ⟨w9, e9, q9, g9⟩ := put_run q8 (by omega) ⟨#[102, 105, 120]⟩ ⟨#[]⟩ (by decide) (by decide)
  obtain ⟨w10, e10, q10, g10⟩ := put_run q9 (by omega) ⟨#[117, 110, 100, 111]⟩ ⟨#[78]⟩ (by decide) (by decide)
  obtain ⟨w11, e11, q11, g11⟩ := put_run q10 (by omega) ⟨#[102, 111, 114, 99, 101]⟩ ⟨#[78, 78]⟩ (by decide) (by decide)
  have q : OM w11 b 11 D11 := q11
  obtain ⟨v, ps, e, hv⟩ := q.look_ok keyedS Tryd.underlying41 (zeroS _) (plainElem_string Tryd.underlying9 (s := ⟨#[]⟩) (by decide)) (keyOf_string_mk Tryd.underlying9 (s := x) (by unfold maxLen; omega))
  obtain ⟨c, rfl, hc, _⟩ := plainElem_string_inv Tryd.underlying9 hv
  obtain ⟨f1, f2⟩ := forms_at x.data.toList
  simp only [Prod.mk.injEq] at hc
  have hc1 := f1.symm.trans hc.1
  simp only [DataW.lit.injEq, Lit.string.injEq] at hc1
  have hcc : c = fmS ld (frm x.toList) := by
    rw [ByteArray.toList_eq, ← fsl_is, hc1]
  rw [f2, hcc, ← ByteArray.toList_eq] at e
  exact ⟨w1, w2, w3, w4, w5, w6, w7, w8, w9, w10, w11, e1, e2, e3, e4, e5, e6, e7, e8, e9, e10, e11, e, ((((((((((g1.trans g2).trans g3).trans g4).trans g5).trans g6).trans g7).trans g8).trans g9).trans g10).trans g11)⟩
end Go.Proofs.YtehmnohkfchljaaDoor.Ex
