/-
  PROVED HERE: templates as text, plain; the contracts of the program's word and of the document's itemText; the contract of the document's itemText; the contract of the document's itemsText. Conditions: as each theorem states.
-/
import Derived.Test.YtofmheeiplagjaaGreatDoorTmN
import Derived.Test.YtofmheeiplagjaaGreatDoorTrF
import Derived.Test.YtofmheeiplagjaaGreatDoorExpN
import Derived.Test.YtofmheeiplagjaaGreatDoorShelfB
import Derived.Test.YtofmheeiplagjaaGreatDoorBls
import Derived.Deep.DeepCutAuto
import Derived.Deep.CutBlock
namespace Go.Proofs.YtofmheeiplagjaaGreatDoor.Tm
open Go.RowKit Go.Proofs.YtofmheeiplagjaaGreatDoor.Lex Go.Proofs.YtofmheeiplagjaaGreatDoor.Dig
theorem dl_append (a b : ByteArray) : (a ++ b).data.toList = a.data.toList ++ b.data.toList := by simp [ByteArray.data_append]
def padL (d : Nat) : List UInt8 := Lib.repeatL [32, 32] d
theorem padL_len (d : Nat) : (padL d).length = d * 2 := Lib.repeatL_length _ d
theorem padL_snoc : ∀ d, padL d ++ [32, 32] = padL (d + 1)
  | 0 => rfl
  | d + 1 => by
    have ih := padL_snoc d
    show ([32, 32] ++ padL d) ++ [32, 32] = [32, 32] ++ padL (d + 1)
    rw [List.append_assoc, ih]
def wdL (w : Int) : List UInt8 := if w = 1 then [56] else if w = 2 then [49, 54] else if w = 4 then [51, 50] else [54, 52]
def numL (w od : Int) (sg : Bool) : List UInt8 := (if sg = true then [105] else [117]) ++ wdL w ++ (if w = 1 then [] else if od = 1 then [98, 101] else [108, 101])
def ctL : Option Ex → List UInt8
  | none => []
  | some e => (textF e).data.toList
def brL : Option Ex → List UInt8
  | none => []
  | some e => 91 :: ((textF e).data.toList ++ [93])
def runL (r : Int) : List UInt8 := if r = 1 then [115, 105, 122, 101] else if r = 2 then [99, 111, 117, 110, 116] else [99, 104, 101, 99, 107]
def lastL (r : Int) (f l : ByteArray) : List UInt8 := if r = 3 ∧ l ≠ f then 32 :: l.data.toList else []
def ruL (r : Int) (f l : ByteArray) : List UInt8 := if r = 0 then [] else [32, 61, 32] ++ runL r ++ [32] ++ f.data.toList ++ lastL r f l
def baseL (x : It) : List UInt8 := if x.kind = 1 then numL x.width x.order x.signed else if x.kind = 2 then [98, 121, 116, 101, 115] else x.type.data.toList
/-- An item's line. -/
def lineL (x : It) : List UInt8 :=
  if x.kind = 4 then [119, 104, 101, 110, 32] ++ ctL x.count ++ [32, 123]
  else baseL x ++ (32 :: x.name.data.toList) ++ brL x.count ++ ruL x.rule x.first x.last ++ [59]
mutual
def itL : Nat → It → List UInt8
  | d, .mk k a n t w o s m c r f la its => padL d ++ lineL (.mk k a n t w o s m c r f la []) ++ [10] ++ (if k = 4 then itsL (d + 1) its ++ padL d ++ [125, 10] else [])
def itsL : Nat → List It → List UInt8
  | _, [] => []
  | d, x :: r => itL d x ++ itsL d r
end
theorem itL_eq (d : Nat) (x : It) : itL d x = padL d ++ lineL x ++ [10] ++ (if x.kind = 4 then itsL (d + 1) x.items ++ padL d ++ [125, 10] else []) := by
  cases x
  simp only [itL, It.kind, It.items]
  rfl
theorem itsL_snoc (d : Nat) (l : List It) (x : It) : itsL d (l ++ [x]) = itsL d l ++ itL d x := by
  induction l with
  | nil => simp [itsL]
  | cons y r ih => rw [List.cons_append, itsL, itsL, ih, List.append_assoc]
theorem itsL_take {d : Nat} {l : List It} {j : Nat} (h : j < l.length) : itsL d (l.take (j + 1)) = itsL d (l.take j) ++ itL d l[j] := by
  rw [List.take_succ_eq_append_getElem h, itsL_snoc]
theorem ex_len {c : Option Ex} (h : Lv c) : (ctL c).length ≤ 4040000 := by
  cases c with
  | none => exact Nat.zero_le _
  | some e =>
    obtain ⟨h1, h2⟩ := h e rfl
    have h3 := text_size e h2
    show (textF e).size ≤ _
    omega
theorem numL_len (w od : Int) (sg : Bool) : (numL w od sg).length ≤ 5 := by
  unfold numL wdL
  split <;> split <;> (try split) <;> (try split) <;> (try split) <;> (try split) <;> simp
theorem line_len {x : It} (h : WfHead x) : (lineL x).length ≤ 4050000 := by
  have hc := ex_len h.sz
  have hn : x.name.data.toList.length ≤ 1000 := h.names.1
  have ht : x.type.data.toList.length ≤ 1000 := h.names.2.1
  have hf : x.first.data.toList.length ≤ 1000 := h.names.2.2.1
  have hl : x.last.data.toList.length ≤ 1000 := h.names.2.2.2
  have hnum := numL_len x.width x.order x.signed
  have hb : (baseL x).length ≤ 1000 := by
    unfold baseL
    split
    · omega
    · split
      · simp
      · exact ht
  have hbr : (brL x.count).length ≤ 4040002 := by
    cases hx : x.count with
    | none => exact Nat.zero_le _
    | some e => rw [hx] at hc; simp only [brL, ctL, List.length_cons, List.length_append, List.length_nil] at hc ⊢; omega
  have hrn : (runL x.rule).length ≤ 5 := by unfold runL; split <;> (try split) <;> simp
  have hla : (lastL x.rule x.first x.last).length ≤ 1001 := by
    unfold lastL
    split
    · simp only [List.length_cons]; omega
    · exact Nat.zero_le _
  have hru : (ruL x.rule x.first x.last).length ≤ 3000 := by
    unfold ruL
    split
    · exact Nat.zero_le _
    · simp only [List.length_append, List.length_cons, List.length_nil]; omega
  unfold lineL
  split
  · simp only [List.length_append, List.length_cons, List.length_nil]; omega
  · simp only [List.length_append, List.length_cons, List.length_nil]; omega
mutual
theorem itL_len : ∀ (d : Nat) (x : It), WfI x → d + ci x ≤ 5000 → (itL d x).length ≤ ci x * 6000000
  | d, .mk k a n t w o s m c r f la its, hw, hd => by
    obtain ⟨h1, h2⟩ := (wfI_iff _).1 hw
    have hl := line_len h1
    have e : lineL (.mk k a n t w o s m c r f la its) = lineL (.mk k a n t w o s m c r f la []) := rfl
    rw [e] at hl
    rw [ci] at hd ⊢
    have hi := itsL_len (d + 1) its h2 (by omega)
    have hp := padL_len d
    rw [itL]
    split
    · simp only [List.length_append, List.length_cons, List.length_nil]; omega
    · simp only [List.length_append, List.length_cons, List.length_nil]; omega
theorem itsL_len : ∀ (d : Nat) (l : List It), WfL l → d + cl l ≤ 5000 → (itsL d l).length ≤ cl l * 6000000
  | _, [], _, _ => Nat.zero_le _
  | d, x :: r, hw, hd => by
    unfold WfL at hw
    rw [cl] at hd ⊢
    have h1 := itL_len d x hw.1 (by omega)
    have h2 := itsL_len d r hw.2 (by omega)
    rw [itsL, List.length_append]
    omega
end
set_option maxRecDepth 100000 in
set_option maxHeartbeats 2000000 in
/-- The contract of the program's word. -/
theorem word_any (g o : Nat) (y : Option Nat) (wd od : Int) (sg : Bool) (W : World) (hw : wd = 1 ∨ wd = 2 ∨ wd = 4 ∨ wd = 8) (ho : od = 0 ∨ od = 1)
    (c4 : W.cell? ⟨g, o + 4, none⟩ = some (.int .i64 wd)) (c5 : W.cell? ⟨g, o + 5, none⟩ = some (.int .i64 od)) (c6 : W.cell? ⟨g, o + 6, none⟩ = some (.bool sg)) :
    Calls Tryz.prog 72 #[.pointer (some ⟨g, o, y⟩)] W fun e w' => (∃ s : ByteArray, e = .returned (.string s) ∧ s.data.toList = numL wd od sg) ∧ W = w' := by
  have i1 : ∀ w : World, (Instr.index 147 (.agg #[.string ⟨#[]⟩, .string ⟨#[56]⟩, .string ⟨#[49, 54]⟩, .string ⟨#[]⟩, .string ⟨#[51, 50]⟩, .string ⟨#[]⟩, .string ⟨#[]⟩, .string ⟨#[]⟩, .string ⟨#[54, 52]⟩]) (.int .i64 1)).run Tryz.prog w = .ok (.string ⟨#[56]⟩) w := fun _ => by kernel_rfl
  have i2 : ∀ w : World, (Instr.index 147 (.agg #[.string ⟨#[]⟩, .string ⟨#[56]⟩, .string ⟨#[49, 54]⟩, .string ⟨#[]⟩, .string ⟨#[51, 50]⟩, .string ⟨#[]⟩, .string ⟨#[]⟩, .string ⟨#[]⟩, .string ⟨#[54, 52]⟩]) (.int .i64 2)).run Tryz.prog w = .ok (.string ⟨#[49, 54]⟩) w := fun _ => by kernel_rfl
  have i4 : ∀ w : World, (Instr.index 147 (.agg #[.string ⟨#[]⟩, .string ⟨#[56]⟩, .string ⟨#[49, 54]⟩, .string ⟨#[]⟩, .string ⟨#[51, 50]⟩, .string ⟨#[]⟩, .string ⟨#[]⟩, .string ⟨#[]⟩, .string ⟨#[54, 52]⟩]) (.int .i64 4)).run Tryz.prog w = .ok (.string ⟨#[51, 50]⟩) w := fun _ => by kernel_rfl
  have i8 : ∀ w : World, (Instr.index 147 (.agg #[.string ⟨#[]⟩, .string ⟨#[56]⟩, .string ⟨#[49, 54]⟩, .string ⟨#[]⟩, .string ⟨#[51, 50]⟩, .string ⟨#[]⟩, .string ⟨#[]⟩, .string ⟨#[]⟩, .string ⟨#[54, 52]⟩]) (.int .i64 8)).run Tryz.prog w = .ok (.string ⟨#[54, 52]⟩) w := fun _ => by kernel_rfl
  rcases hw with rfl | rfl | rfl | rfl <;> rcases ho with rfl | rfl <;> cases sg
  all_goals
    go_enter Tryz.func72, Tryz.ntmps72
    go_wp2_with fail
    go_ret
    exact ⟨⟨_, rfl, by decide⟩, rfl⟩
end Go.Proofs.YtofmheeiplagjaaGreatDoor.Tm
namespace Go.Proofs.YtofmheeiplagjaaGreatDoor.Tm
open Go.RowKit Go.Proofs.YtofmheeiplagjaaGreatDoor.Lex Go.Proofs.YtofmheeiplagjaaGreatDoor.Dig
/-- A string with these bytes. -/
def StrL (l : List UInt8) (v : Value) : Prop := ∃ s : ByteArray, v = .string s ∧ s.data.toList = l
theorem numTxt_8 : numTxt 8 = ⟨#[56]⟩ := by decide +kernel
theorem numTxt_16 : numTxt 16 = ⟨#[49, 54]⟩ := by decide +kernel
theorem numTxt_32 : numTxt 32 = ⟨#[51, 50]⟩ := by decide +kernel
theorem numTxt_64 : numTxt 64 = ⟨#[54, 52]⟩ := by decide +kernel
theorem docNum (k : Int) (s : ByteArray) (h : numTxt k = s) (h0 : IntKind.u64.wrap k = k) (W : World) : Calls Tryz.prog 38 #[.int .u64 k, .int .i64 10, .int .i64 0] W fun e w' => e = .returned (.tuple #[.string s, .int .i64 0]) ∧ Below W.heap.size W w' := by
  have := docTxPrint_any k W
  rw [h, h0] at this
  exact this
def TtP (l : List UInt8) (W : World) (e : Ending) (w' : World) : Prop := (∃ s : ByteArray, e = .returned (.string s) ∧ s.data.toList = l) ∧ Below W.heap.size W w'
section
variable {W : World}
set_option maxRecDepth 100000 in
set_option maxHeartbeats 8000000 in
/-- The contract of the document's itemText. -/
theorem itemText_any (x : It) (p : Option Addr) (a : Option Addr) (m c : Nat) (hx : WfHead x) (hc : CtAt W x.count (.pointer p)) : Calls Tryz.prog 73 #[.agg (itVals x (.pointer p) (.slice a m c)).toArray] W (TtP (lineL x) W) := by
  obtain ⟨q0, q1, q2, q3, q4, q5, q6, q7, q8, q9, q10, q11, q12⟩ := x
  have HX := Lib.hid hx
  have hk : 1 ≤ q0 ∧ q0 ≤ 4 := hx.kind
  have hn2 : q2.size ≤ 1000 := hx.names.1
  have hn3 : q3.size ≤ 1000 := hx.names.2.1
  have hn10 : q10.size ≤ 1000 := hx.names.2.2.1
  have hn11 : q11.size ≤ 1000 := hx.names.2.2.2
  have CD := Lib.hid (fun (w : World) (hb : Below W.heap.size W w) (e : Ex) (he : q8 = some e) => docText_any e (.pointer p) w (hx.sz e he).2 (hx.sz e he).1 (by have := CtAt.below hb hc; rw [show (It.mk q0 q1 q2 q3 q4 q5 q6 q7 q8 q9 q10 q11 q12).count = some e from he] at this; exact this))
  have CZ := Lib.hid (fun (e : Ex) (he : q8 = some e) => show (textF e).size ≤ 4040000 from by have := ex_len hx.sz; rw [show (It.mk q0 q1 q2 q3 q4 q5 q6 q7 q8 q9 q10 q11 q12).count = some e from he] at this; exact this)
  have CP := Lib.hid (show (q8 = none → p = none) ∧ (∀ e, q8 = some e → ∃ g, p = some ⟨g, 0, none⟩) from by
    refine ⟨fun h => ?_, fun e he => ?_⟩
    · have hc' : CtAt W q8 (.pointer p) := hc
      rw [h] at hc'
      have h2 : (Value.pointer p) = .pointer none := hc'
      injection h2
    · have hc' : CtAt W q8 (.pointer p) := hc
      rw [he] at hc'
      obtain ⟨g, hg⟩ := ptr_of (w := W) (x := e) hc'
      injection hg with hg
      exact ⟨g, hg⟩)
  have B0 := Lib.hid ((Below.refl W.heap.size W).alloc (Nat.le_refl _) (.cells (itVals (.mk q0 q1 q2 q3 q4 q5 q6 q7 q8 q9 q10 q11 q12) (.pointer p) (.slice a m c)).toArray 92))
  have I0 := Lib.hid (IB.new W (itVals (.mk q0 q1 q2 q3 q4 q5 q6 q7 q8 q9 q10 q11 q12) (.pointer p) (.slice a m c)))
  clear hc hx
  obtain ⟨L, hL⟩ : ∃ L, lineL (.mk q0 q1 q2 q3 q4 q5 q6 q7 q8 q9 q10 q11 q12) = L := ⟨_, rfl⟩
  rw [hL]
  have HL := Lib.hid hL
  clear hL
  rw [show (itVals (.mk q0 q1 q2 q3 q4 q5 q6 q7 q8 q9 q10 q11 q12) (.pointer p) (.slice a m c)).toArray = #[.int .i64 q0, .int .i64 (q1 : Nat), .string q2, .string q3, .int .i64 q4, .int .i64 q5, .bool q6, .bool q7, .pointer p, .int .i64 q9, .string q10, .string q11, .slice a m c] from rfl] at B0 ⊢
  have I0 : Hid (IB (W.alloc (.cells #[.int .i64 q0, .int .i64 (q1 : Nat), .string q2, .string q3, .int .i64 q4, .int .i64 q5, .bool q6, .bool q7, .pointer p, .int .i64 q9, .string q10, .string q11, .slice a m c] 92)) W.heap.size (itVals (.mk q0 q1 q2 q3 q4 q5 q6 q7 q8 q9 q10 q11 q12) (.pointer p) (.slice a m c))) := I0
  go_enter Tryz.func73, Tryz.ntmps73
  go_upto_region 1 with fail
  generalize W.alloc (.cells #[.int .i64 q0, .int .i64 (q1 : Nat), .string q2, .string q3, .int .i64 q4, .int .i64 q5, .bool q6, .bool q7, .pointer p, .int .i64 q9, .string q10, .string q11, .slice a m c] 92) = w0 at *
  have hX : W.heap.size < w0.heap.size := I0.out.lt
  generalize hXe : W.heap.size = X at *
  have HXE := Lib.hid hXe
  clear hXe
  have c0 : w0.cell? ⟨X, 0, none⟩ = some (.int .i64 q0) := I0.out.cell 0
  have c3 : w0.cell? ⟨X, 3, none⟩ = some (.string q3) := I0.out.cell 3
  go_upto_block 0 with fail
  go_cut [3, 4, 5] (fun v3 v4 v5 wx => ∃ s : ByteArray, v3 = .string s ∧ Hid (s.data.toList = baseL (.mk q0 q1 q2 q3 q4 q5 q6 q7 q8 q9 q10 q11 q12)) ∧ s.size ≤ 1000 ∧ Hid (q0 ≠ 4) ∧ Hid (Below w0.heap.size w0 wx))
  case first =>
    by_cases h4 : q0 = 4
    · subst h4
      have hct : q8 ≠ none := HX.out.cnt (.inr (.inl rfl))
      obtain ⟨e, he⟩ := Option.ne_none_iff_exists'.1 hct
      obtain ⟨g, rfl⟩ := CP.out.2 e he
      have c8 : w0.cell? ⟨X, 8, none⟩ = some (.pointer (some ⟨g, 0, none⟩)) := I0.out.cell 8
      have C := Lib.hid (CD.out w0 B0.out e he)
      have hz := CZ.out e he
      have HL2 := Lib.hid (show [119, 104, 101, 110, 32] ++ (textF e).data.toList ++ [32, 123] = L by rw [← HL.out]; show _ = [119, 104, 101, 110, 32] ++ ctL q8 ++ [32, 123]; rw [he]; rfl)
      generalize textF e = te at *
      have s1 : ¬ (9223372036854775807 < 5 + te.size) := by omega
      have s2 : ¬ (9223372036854775807 < 5 + te.size + 2) := by omega
      clear hct CD CZ CP HX
      go_wp2_with fail
      refine (C.out).mono ?_; rintro e w1 ⟨rfl, hb⟩
      have B1 := Lib.hid (B0.out.trans (hb.mono (Nat.le_of_lt hX)))
      clear hb
      go_wp2_with fail
      go_ret
      refine ⟨⟨_, rfl, ?_⟩, by rw [HXE.out]; exact B1.out⟩
      rw [← HL2.out, dl_append, dl_append]
    · by_cases h2 : q0 = 2
      · subst h2
        go_wp2_with fail
        go_meet
        exact ⟨⟨#[98, 121, 116, 101, 115]⟩, rfl, Lib.hid rfl, by decide, Lib.hid h4, Lib.hid (Below.refl _ _)⟩
      · by_cases h1 : q0 = 1
        · subst h1
          have hwd := HX.out.wide rfl
          have hod := HX.out.ord
          simp only [It.width] at hwd
          simp only [It.order] at hod
          have c4 : w0.cell? ⟨X, 4, none⟩ = some (.int .i64 q4) := I0.out.cell 4
          have c5 : w0.cell? ⟨X, 5, none⟩ = some (.int .i64 q5) := I0.out.cell 5
          have c6 : w0.cell? ⟨X, 6, none⟩ = some (.bool q6) := I0.out.cell 6
          have HB : Hid (∀ od sg, baseL (.mk 1 q1 q2 q3 q4 od sg q7 q8 q9 q10 q11 q12) = numL q4 od sg) := Lib.hid (fun _ _ => rfl)
          rcases hwd with rfl | rfl | rfl | rfl
          · have C := Lib.hid (docNum 8 ⟨#[56]⟩ numTxt_8 (by decide) w0)
            rcases hod with rfl | rfl <;> cases q6
            all_goals
              go_wp2_with fail
              refine (C.out).mono ?_; rintro e w1 ⟨rfl, hb⟩
              have B1 := Lib.hid hb
              have c4 := keepCell hb c4
              have c5 := keepCell hb c5
              have c6 := keepCell hb c6
              have l1 := hb.size
              have kx : X < w1.heap.size := by omega
              have k1 : ¬ X = w1.heap.size := by omega
              have k2 : ¬ w1.heap.size = X := by omega
              have k3 : ¬ X = w1.heap.size + 1 := by omega
              have k4 : ¬ w1.heap.size + 1 = X := by omega
              clear hb
              go_wp2_with fail
              refine (one_any _ _).mono ?_; rintro e w2 ⟨rfl, rfl⟩
              simp only [if_true, Bool.false_eq_true, if_false]
              go_wp2_with fail
              go_meet
              exact ⟨_, rfl, Lib.hid (by rw [HB.out]; decide), by decide, Lib.hid h4, Lib.hid (by first | exact B1.out.alloc B1.out.size _ | exact (B1.out.alloc B1.out.size _).alloc (by simp; omega) _)⟩
          · have C := Lib.hid (docNum 16 ⟨#[49, 54]⟩ numTxt_16 (by decide) w0)
            rcases hod with rfl | rfl <;> cases q6
            all_goals
              go_wp2_with fail
              refine (C.out).mono ?_; rintro e w1 ⟨rfl, hb⟩
              have B1 := Lib.hid hb
              have c4 := keepCell hb c4
              have c5 := keepCell hb c5
              have c6 := keepCell hb c6
              have l1 := hb.size
              have kx : X < w1.heap.size := by omega
              have k1 : ¬ X = w1.heap.size := by omega
              have k2 : ¬ w1.heap.size = X := by omega
              have k3 : ¬ X = w1.heap.size + 1 := by omega
              have k4 : ¬ w1.heap.size + 1 = X := by omega
              clear hb
              go_wp2_with fail
              refine (one_any _ _).mono ?_; rintro e w2 ⟨rfl, rfl⟩
              simp only [if_true, Bool.false_eq_true, if_false]
              go_wp2_with fail
              go_meet
              exact ⟨_, rfl, Lib.hid (by rw [HB.out]; decide), by decide, Lib.hid h4, Lib.hid (by first | exact B1.out.alloc B1.out.size _ | exact (B1.out.alloc B1.out.size _).alloc (by simp; omega) _)⟩
          · have C := Lib.hid (docNum 32 ⟨#[51, 50]⟩ numTxt_32 (by decide) w0)
            rcases hod with rfl | rfl <;> cases q6
            all_goals
              go_wp2_with fail
              refine (C.out).mono ?_; rintro e w1 ⟨rfl, hb⟩
              have B1 := Lib.hid hb
              have c4 := keepCell hb c4
              have c5 := keepCell hb c5
              have c6 := keepCell hb c6
              have l1 := hb.size
              have kx : X < w1.heap.size := by omega
              have k1 : ¬ X = w1.heap.size := by omega
              have k2 : ¬ w1.heap.size = X := by omega
              have k3 : ¬ X = w1.heap.size + 1 := by omega
              have k4 : ¬ w1.heap.size + 1 = X := by omega
              clear hb
              go_wp2_with fail
              refine (one_any _ _).mono ?_; rintro e w2 ⟨rfl, rfl⟩
              simp only [if_true, Bool.false_eq_true, if_false]
              go_wp2_with fail
              go_meet
              exact ⟨_, rfl, Lib.hid (by rw [HB.out]; decide), by decide, Lib.hid h4, Lib.hid (by first | exact B1.out.alloc B1.out.size _ | exact (B1.out.alloc B1.out.size _).alloc (by simp; omega) _)⟩
          · have C := Lib.hid (docNum 64 ⟨#[54, 52]⟩ numTxt_64 (by decide) w0)
            rcases hod with rfl | rfl <;> cases q6
            all_goals
              go_wp2_with fail
              refine (C.out).mono ?_; rintro e w1 ⟨rfl, hb⟩
              have B1 := Lib.hid hb
              have c4 := keepCell hb c4
              have c5 := keepCell hb c5
              have c6 := keepCell hb c6
              have l1 := hb.size
              have kx : X < w1.heap.size := by omega
              have k1 : ¬ X = w1.heap.size := by omega
              have k2 : ¬ w1.heap.size = X := by omega
              have k3 : ¬ X = w1.heap.size + 1 := by omega
              have k4 : ¬ w1.heap.size + 1 = X := by omega
              clear hb
              go_wp2_with fail
              refine (one_any _ _).mono ?_; rintro e w2 ⟨rfl, rfl⟩
              simp only [if_true, Bool.false_eq_true, if_false]
              go_wp2_with fail
              go_meet
              exact ⟨_, rfl, Lib.hid (by rw [HB.out]; decide), by decide, Lib.hid h4, Lib.hid (by first | exact B1.out.alloc B1.out.size _ | exact (B1.out.alloc B1.out.size _).alloc (by simp; omega) _)⟩
        · have h3 : q0 = 3 := by omega
          subst h3
          go_wp2_with fail
          go_meet
          exact ⟨q3, rfl, Lib.hid rfl, hn3, Lib.hid h4, Lib.hid (Below.refl _ _)⟩
  case rest =>
    clear c0 c3
    obtain ⟨s, rfl, hs, hs1, h4, HB⟩ := hcut
    have c2 : w0.cell? ⟨X, 2, none⟩ = some (.string q2) := I0.out.cell 2
    have c8 : w0.cell? ⟨X, 8, none⟩ = some (.pointer p) := I0.out.cell 8
    have c9 : w0.cell? ⟨X, 9, none⟩ = some (.int .i64 q9) := I0.out.cell 9
    have c10 : w0.cell? ⟨X, 10, none⟩ = some (.string q10) := I0.out.cell 10
    have c11 : w0.cell? ⟨X, 11, none⟩ = some (.string q11) := I0.out.cell 11
    have c2 := keepCell HB.out c2
    have c8 := keepCell HB.out c8
    have c9 := keepCell HB.out c9
    have c10 := keepCell HB.out c10
    have c11 := keepCell HB.out c11
    have hXc : X < wc.heap.size := Nat.lt_of_lt_of_le hX HB.out.size
    have BC := Lib.hid (B0.out.trans (HB.out.mono (Nat.le_of_lt hX)))
    have HL2 := Lib.hid (show L = (s ++ (⟨#[32]⟩ ++ q2)).data.toList ++ brL q8 ++ ruL q9 q10 q11 ++ [59] by
      rw [← HL.out, dl_append, dl_append, hs.out]
      show lineL (.mk q0 q1 q2 q3 q4 q5 q6 q7 q8 q9 q10 q11 q12) = _
      unfold lineL
      rw [if_neg (show ¬ (It.mk q0 q1 q2 q3 q4 q5 q6 q7 q8 q9 q10 q11 q12).kind = 4 from h4.out)]
      rfl)
    have s1 : ¬ (9223372036854775807 < 1 + q2.size) := by omega
    have s2 : ¬ (9223372036854775807 < s.size + (1 + q2.size)) := by omega
    have hsz : (s ++ (⟨#[32]⟩ ++ q2)).size ≤ 3000 := by
      rw [ByteArray.size_append, ByteArray.size_append]
      have : ByteArray.size ⟨#[32]⟩ = 1 := rfl
      omega
    clear B0 HB hs h4 HL I0
    go_upto_if 54 with fail
    generalize s ++ (⟨#[32]⟩ ++ q2) = s12 at *
    clear s1 s2 c2
    go_cut [3] (fun v3 wx => ∃ s : ByteArray, v3 = .string s ∧ Hid (s.data.toList = s12.data.toList ++ brL q8) ∧ s.size ≤ 4044000 ∧ Hid (Below wc.heap.size wc wx))
    case first =>
      cases hq : q8 with
      | none =>
        obtain rfl := CP.out.1 hq
        clear CD CZ CP HX
        go_wp2_with fail
        go_meet
        exact ⟨s12, rfl, Lib.hid (by rw [hq, show brL none = [] from rfl, List.append_nil]), by omega, Lib.hid (Below.refl _ _)⟩
      | some e =>
        obtain ⟨g, rfl⟩ := CP.out.2 e hq
        have C := Lib.hid (CD.out wc BC.out e hq)
        have hz := CZ.out e hq
        have HE := Lib.hid (show brL q8 = 91 :: ((textF e).data.toList ++ [93]) by rw [hq]; rfl)
        generalize textF e = te at *
        have s1 : ¬ (9223372036854775807 < 1 + te.size) := by omega
        have s2 : ¬ (9223372036854775807 < 1 + te.size + 1) := by omega
        have s3 : ¬ (9223372036854775807 < s12.size + (1 + te.size + 1)) := by omega
        clear CD CZ CP HX
        go_wp2_with fail
        refine (C.out).mono ?_; rintro e' w1 ⟨rfl, hb⟩
        have B1 := Lib.hid hb
        clear hb
        go_wp2_with fail
        go_meet
        refine ⟨_, rfl, Lib.hid ?_, ?_, B1⟩
        · rw [HE.out, dl_append, dl_append, dl_append]; rfl
        · rw [ByteArray.size_append, ByteArray.size_append, ByteArray.size_append]
          have : ByteArray.size ⟨#[91]⟩ = 1 := rfl
          have : ByteArray.size ⟨#[93]⟩ = 1 := rfl
          omega
    case rest =>
      clear CD CZ CP hsz
      rename_i wd
      obtain ⟨s14, rfl, hs14, hz14, HB⟩ := hcut
      have HL3 := Lib.hid (show L = s14.data.toList ++ ruL q9 q10 q11 ++ [59] by rw [HL2.out, hs14.out])
      have c9 := keepCell HB.out c9
      have c10 := keepCell HB.out c10
      have c11 := keepCell HB.out c11
      have hXd := Nat.lt_of_lt_of_le hXc HB.out.size
      have BD := Lib.hid (BC.out.trans (HB.out.mono (Nat.le_of_lt hXc)))
      have hru := HX.out.rule
      simp only [It.rule] at hru
      clear HB BC HL2 hs14 HX c8
      go_upto_if 64 with fail
      go_cut [3] (fun v3 wx => ∃ s : ByteArray, v3 = .string s ∧ Hid (s.data.toList = s14.data.toList ++ ruL q9 q10 q11) ∧ s.size ≤ 4050000 ∧ Hid (Below X W wx))
      case first =>
        by_cases h0 : q9 = 0
        · subst h0
          go_wp2_with fail
          go_meet
          exact ⟨s14, rfl, Lib.hid (by rw [show ruL 0 q10 q11 = [] from rfl, List.append_nil]), by omega, BD⟩
        · have hr : q9 = 1 ∨ q9 = 2 ∨ q9 = 3 := by omega
          have bA : ∀ o : Obj, Below X W (wc.alloc o) := fun o => BD.out.alloc (Nat.le_of_lt hXd) o
          have k1 : ¬ X = wc.heap.size := by omega
          have k2 : ¬ wc.heap.size = X := by omega
          rcases hr with rfl | rfl | rfl
          · have s1 : ¬ (9223372036854775807 < 8 + q10.size) := by omega
            have s2 : ¬ (9223372036854775807 < s14.size + (8 + q10.size)) := by omega
            go_upto_region 16 with fail
            go_region
            all_goals
              go_wp2_with fail
              go_meet
              refine ⟨_, rfl, Lib.hid ?_, ?_, Lib.hid (bA _).drew⟩
              · rw [show ruL 1 q10 q11 = [32, 61, 32] ++ [115, 105, 122, 101] ++ [32] ++ q10.data.toList ++ lastL 1 q10 q11 from rfl, show lastL 1 q10 q11 = [] from if_neg (fun h => absurd h.1 (by decide))]
                simp only [dl_append, List.append_nil]
              · simp only [ByteArray.size_append]
                have z1 : ByteArray.size ⟨#[32]⟩ = 1 := rfl
                have z2 : ByteArray.size ⟨#[32, 61, 32]⟩ = 3 := rfl
                have z3 : ByteArray.size ⟨#[115, 105, 122, 101]⟩ = 4 := rfl
                have z4 : ByteArray.size ⟨#[99, 111, 117, 110, 116]⟩ = 5 := rfl
                have z5 : ByteArray.size ⟨#[99, 104, 101, 99, 107]⟩ = 5 := rfl
                omega
          · have s1 : ¬ (9223372036854775807 < 9 + q10.size) := by omega
            have s2 : ¬ (9223372036854775807 < s14.size + (9 + q10.size)) := by omega
            go_upto_region 16 with fail
            go_region
            all_goals
              go_wp2_with fail
              go_meet
              refine ⟨_, rfl, Lib.hid ?_, ?_, Lib.hid (bA _).drew⟩
              · rw [show ruL 2 q10 q11 = [32, 61, 32] ++ [99, 111, 117, 110, 116] ++ [32] ++ q10.data.toList ++ lastL 2 q10 q11 from rfl, show lastL 2 q10 q11 = [] from if_neg (fun h => absurd h.1 (by decide))]
                simp only [dl_append, List.append_nil]
              · simp only [ByteArray.size_append]
                have z1 : ByteArray.size ⟨#[32]⟩ = 1 := rfl
                have z2 : ByteArray.size ⟨#[32, 61, 32]⟩ = 3 := rfl
                have z3 : ByteArray.size ⟨#[115, 105, 122, 101]⟩ = 4 := rfl
                have z4 : ByteArray.size ⟨#[99, 111, 117, 110, 116]⟩ = 5 := rfl
                have z5 : ByteArray.size ⟨#[99, 104, 101, 99, 107]⟩ = 5 := rfl
                omega
          · have s1 : ¬ (9223372036854775807 < 9 + q10.size) := by omega
            have s2 : ¬ (9223372036854775807 < s14.size + (9 + q10.size)) := by omega
            by_cases hl : q11 = q10
            · have hll : lastL 3 q10 q11 = [] := if_neg (by simp [hl])
              subst hl
              have e1 : (q11.toList != q11.toList) = false := by simp
              go_upto_region 16 with fail
              go_region
              all_goals
                go_wp2_with fail
                go_meet
                refine ⟨_, rfl, Lib.hid ?_, ?_, Lib.hid (bA _).drew⟩
                · rw [show ruL 3 q11 q11 = [32, 61, 32] ++ [99, 104, 101, 99, 107] ++ [32] ++ q11.data.toList ++ lastL 3 q11 q11 from rfl, hll]
                  simp only [dl_append, List.append_nil]
                · simp only [ByteArray.size_append]
                  have z1 : ByteArray.size ⟨#[32]⟩ = 1 := rfl
                  have z2 : ByteArray.size ⟨#[32, 61, 32]⟩ = 3 := rfl
                  have z3 : ByteArray.size ⟨#[115, 105, 122, 101]⟩ = 4 := rfl
                  have z4 : ByteArray.size ⟨#[99, 111, 117, 110, 116]⟩ = 5 := rfl
                  have z5 : ByteArray.size ⟨#[99, 104, 101, 99, 107]⟩ = 5 := rfl
                  omega
            · have hll : lastL 3 q10 q11 = 32 :: q11.data.toList := if_pos ⟨rfl, hl⟩
              have e1 : (q11.toList == q10.toList) = false := (Go.Lib.bytes_beq_false_iff _ _).2 hl
              have s3 : ¬ (9223372036854775807 < 1 + q11.size) := by omega
              have s4 : ¬ (9223372036854775807 < s14.size + (9 + q10.size) + (1 + q11.size)) := by omega
              go_upto_region 16 with fail
              go_region
              all_goals
                go_wp2_with fail
                go_meet
                refine ⟨_, rfl, Lib.hid ?_, ?_, Lib.hid (bA _).drew⟩
                · rw [show ruL 3 q10 q11 = [32, 61, 32] ++ [99, 104, 101, 99, 107] ++ [32] ++ q10.data.toList ++ lastL 3 q10 q11 from rfl, hll]
                  simp only [dl_append, List.append_assoc]; rfl
                · simp only [ByteArray.size_append]
                  have z1 : ByteArray.size ⟨#[32]⟩ = 1 := rfl
                  have z2 : ByteArray.size ⟨#[32, 61, 32]⟩ = 3 := rfl
                  have z3 : ByteArray.size ⟨#[115, 105, 122, 101]⟩ = 4 := rfl
                  have z4 : ByteArray.size ⟨#[99, 111, 117, 110, 116]⟩ = 5 := rfl
                  have z5 : ByteArray.size ⟨#[99, 104, 101, 99, 107]⟩ = 5 := rfl
                  omega
      case rest =>
        clear BD c9 c10 c11
        obtain ⟨s19, rfl, hs19, hz19, HB⟩ := hcut
        have s1 : ¬ (9223372036854775807 < s19.size + 1) := by omega
        go_wp2_with fail
        go_ret
        refine ⟨⟨_, rfl, ?_⟩, by rw [HXE.out]; exact HB.out⟩
        rw [HL3.out, dl_append, hs19.out]
end
end Go.Proofs.YtofmheeiplagjaaGreatDoor.Tm
namespace Go.Proofs.YtofmheeiplagjaaGreatDoor.Tm
open Go.RowKit Go.Proofs.YtofmheeiplagjaaGreatDoor.Lex Go.Proofs.YtofmheeiplagjaaGreatDoor.Dig
theorem wfL_take {l : List It} (h : WfL l) (j : Nat) : WfL (l.take j) := by
  induction l generalizing j with
  | nil => simpa using h
  | cons x r ih =>
    unfold WfL at h
    cases j with
    | zero => exact trivial
    | succ j => exact ⟨h.1, ih h.2 j⟩
theorem cl_take (l : List It) (j : Nat) : cl (l.take j) ≤ cl l := by
  induction l generalizing j with
  | nil => simp [cl]
  | cons x r ih =>
    cases j with
    | zero => simp [cl]
    | succ j =>
      rw [List.take_succ_cons, cl, cl]
      have := ih j
      omega
theorem its_size {d j : Nat} {l : List It} {s : ByteArray} (h : s.data.toList = itsL d (l.take j)) (hw : WfL l) (hd : d + cl l ≤ 5000) : s.size ≤ 30000000000 := by
  have h1 := itsL_len d (l.take j) (wfL_take hw j) (by have := cl_take l j; omega)
  have h2 := cl_take l j
  rw [← h] at h1
  have h3 : s.data.toList.length = s.size := rfl
  omega
def DtC (n : Nat) : Prop := ∀ (l : List It) (va : Value) (d : Nat) (pad : ByteArray) (W : World), cl l < n → WfL l → ItsAt W va l → pad.data.toList = padL d → d + cl l ≤ 5000 →
  Calls Tryz.prog 51 #[va, .string pad] W (TtP (itsL d l) W)
section
variable {n : Nat}
set_option maxRecDepth 100000 in
set_option maxHeartbeats 8000000 in
theorem docTexts_run (IH : DtC n) : DtC (n + 1) := by
  intro l va d pad W hn hw hv hp hd
  have HI := Lib.hid IH
  have HW := Lib.hid hw
  have HN := Lib.hid hn
  have HD := Lib.hid hd
  have HP := Lib.hid hp
  obtain ⟨pa, ca, rfl, hla, ra⟩ := hv
  have RA := Lib.hid ra
  have hll : l.length ≤ 5000 := by have := len_cl l; omega
  have hps : pad.size ≤ 10000 := by
    have h1 := padL_len d
    rw [← hp] at h1
    have h2 : pad.data.toList.length = pad.size := rfl
    omega
  clear ra IH hn hw hp hd
  go_enter Tryz.func51, Tryz.ntmps51
  go_wp2_with fail
  go_loopw [5, 7, 10] (fun v5 v7 v10 wr => ∃ (j : Nat) (s : ByteArray), v5 = .string s ∧ v10 = .int .i64 (j : Nat) ∧ j ≤ l.length ∧ Hid (s.data.toList = itsL d (l.take j)) ∧ Hid (Below W.heap.size W wr)) (fun _ _ i _ => l.length - (intOf i).toNat)
  case atStart => exact ⟨0, ⟨#[]⟩, rfl, rfl, Nat.zero_le _, Lib.hid (by simp [itsL]), Lib.hid (Below.refl _ _)⟩
  case round =>
    obtain ⟨j, s, rfl, rfl, hj, hs, HB⟩ := hrel
    by_cases hlt : j < l.length
    · have d1 : (j : Int) < (l.length : Int) := by omega
      have i0 : (0 : Int) ≤ (j : Int) := by omega
      have hsz := its_size hs.out HW.out HD.out
      obtain ⟨ad, cva, iva, rfl, hca, hia⟩ := rowAt_get l 0 RA.out j hlt
      have hci := ci_mem _ (List.getElem_mem hlt)
      have hwx := (wfI_iff _).1 (wfL_mem HW.out _ (List.getElem_mem hlt))
      have hst := itsL_take (d := d) hlt
      rw [Nat.zero_add] at hca
      obtain ⟨x, hx⟩ : ∃ x, l[j] = x := ⟨_, rfl⟩
      rw [hx] at hca hia hci hwx hst
      have HS := Lib.hid (show itsL d (l.take (j + 1)) = s.data.toList ++ itL d x by rw [hst, hs.out])
      have hcx := cl_items x
      have hia2 := (itAt_iff _ _ _ _).1 hia
      obtain ⟨xp, rfl⟩ := ct_ptr hia2.1
      obtain ⟨s1, s2, s3, rfl⟩ := its_slice hia2.2
      obtain ⟨q0, q1, q2, q3, q4, q5, q6, q7, q8, q9, q10, q11, q12⟩ := x
      have HB2 := HB.out
      have KA : ∀ m v, (itVals (.mk q0 q1 q2 q3 q4 q5 q6 q7 q8 q9 q10 q11 q12) (.pointer xp) (.slice s1 s2 s3))[m]? = some v → wr.cell? (ad.add (j * 13 + m)) = some v := fun m v h => keepCell HB2 (hca m v h)
      have a0 : wr.cell? (ad.add (j * 13)) = some (.int .i64 q0) := KA 0 _ rfl
      have a1 : wr.cell? ⟨(ad.add (j * 13)).block, (ad.add (j * 13)).off + 1, none⟩ = some (.int .i64 (q1 : Nat)) := by rw [← add_next2]; exact KA 1 _ rfl
      have a2 : wr.cell? ⟨(ad.add (j * 13)).block, (ad.add (j * 13)).off + 2, none⟩ = some (.string q2) := by rw [← add_next2]; exact KA 2 _ rfl
      have a3 : wr.cell? ⟨(ad.add (j * 13)).block, (ad.add (j * 13)).off + 3, none⟩ = some (.string q3) := by rw [← add_next2]; exact KA 3 _ rfl
      have a4 : wr.cell? ⟨(ad.add (j * 13)).block, (ad.add (j * 13)).off + 4, none⟩ = some (.int .i64 q4) := by rw [← add_next2]; exact KA 4 _ rfl
      have a5 : wr.cell? ⟨(ad.add (j * 13)).block, (ad.add (j * 13)).off + 5, none⟩ = some (.int .i64 q5) := by rw [← add_next2]; exact KA 5 _ rfl
      have a6 : wr.cell? ⟨(ad.add (j * 13)).block, (ad.add (j * 13)).off + 6, none⟩ = some (.bool q6) := by rw [← add_next2]; exact KA 6 _ rfl
      have a7 : wr.cell? ⟨(ad.add (j * 13)).block, (ad.add (j * 13)).off + 7, none⟩ = some (.bool q7) := by rw [← add_next2]; exact KA 7 _ rfl
      have a8 : wr.cell? ⟨(ad.add (j * 13)).block, (ad.add (j * 13)).off + 8, none⟩ = some (.pointer xp) := by rw [← add_next2]; exact KA 8 _ rfl
      have a9 : wr.cell? ⟨(ad.add (j * 13)).block, (ad.add (j * 13)).off + 9, none⟩ = some (.int .i64 q9) := by rw [← add_next2]; exact KA 9 _ rfl
      have a10 : wr.cell? ⟨(ad.add (j * 13)).block, (ad.add (j * 13)).off + 10, none⟩ = some (.string q10) := by rw [← add_next2]; exact KA 10 _ rfl
      have a11 : wr.cell? ⟨(ad.add (j * 13)).block, (ad.add (j * 13)).off + 11, none⟩ = some (.string q11) := by rw [← add_next2]; exact KA 11 _ rfl
      have a12 : wr.cell? ⟨(ad.add (j * 13)).block, (ad.add (j * 13)).off + 12, none⟩ = some (.slice s1 s2 s3) := by rw [← add_next2]; exact KA 12 _ rfl
      have HC := Lib.hid (fun (w : World) (hb : Below W.heap.size W w) => itemText_any (W := w) (.mk q0 q1 q2 q3 q4 q5 q6 q7 q8 q9 q10 q11 q12) xp s1 s2 s3 hwx.1 (CtAt.below hb hia2.1))
      have HT := Lib.hid (fun (w : World) (hb : Below W.heap.size W w) (pad2 : ByteArray) (h2 : pad2.data.toList = padL (d + 1)) => HI.out q12 (.slice s1 s2 s3) (d + 1) pad2 w (by have := HN.out; simp only [It.items] at hcx; omega) hwx.2 (hia2.2.below' hb) h2 (by have := HD.out; simp only [It.items] at hcx; omega))
      have hln := line_len hwx.1
      have hsub := itsL_len (d + 1) q12 hwx.2 (by have := HD.out; simp only [It.items] at hcx; omega)
      have hcb : cl q12 ≤ 5000 := by have := HD.out; simp only [It.items] at hcx; omega
      have HE := Lib.hid (itL_eq d (.mk q0 q1 q2 q3 q4 q5 q6 q7 q8 q9 q10 q11 q12))
      unfold TtP at HC HT
      rw [show (itVals (.mk q0 q1 q2 q3 q4 q5 q6 q7 q8 q9 q10 q11 q12) (.pointer xp) (.slice s1 s2 s3)).toArray = #[.int .i64 q0, .int .i64 (q1 : Nat), .string q2, .string q3, .int .i64 q4, .int .i64 q5, .bool q6, .bool q7, .pointer xp, .int .i64 q9, .string q10, .string q11, .slice s1 s2 s3] from rfl] at HC
      obtain ⟨Ln, hLn⟩ : ∃ L, lineL (.mk q0 q1 q2 q3 q4 q5 q6 q7 q8 q9 q10 q11 q12) = L := ⟨_, rfl⟩
      rw [hLn] at HC HE hln
      have HE : Hid (itL d (.mk q0 q1 q2 q3 q4 q5 q6 q7 q8 q9 q10 q11 q12) = padL d ++ Ln ++ [10] ++ (if q0 = 4 then itsL (d + 1) q12 ++ padL d ++ [125, 10] else [])) := HE
      clear hca hx hia KA HB2 hst hci hcx hwx hia2 hLn
      obtain ⟨⟨g1, o1, y1⟩, hA1⟩ : ∃ A, ad.add (j * 13) = A := ⟨_, rfl⟩
      rw [hA1] at a0 a1 a2 a3 a4 a5 a6 a7 a8 a9 a10 a11 a12
      have z1 : g1 < wr.heap.size := World.block_lt_of_cell? wr _ a1
      go_upto_region 5 with fail
      have B5 := Lib.hid (HB.out.alloc HB.out.size (.cells #[.int .i64 q0, .int .i64 (q1 : Nat), .string q2, .string q3, .int .i64 q4, .int .i64 q5, .bool q6, .bool q7, .pointer xp, .int .i64 q9, .string q10, .string q11, .slice s1 s2 s3] 92))
      have I5 := Lib.hid (IB.new wr (itVals (.mk q0 q1 q2 q3 q4 q5 q6 q7 q8 q9 q10 q11 q12) (.pointer xp) (.slice s1 s2 s3)))
      have I5 : Hid (IB (wr.alloc (.cells #[.int .i64 q0, .int .i64 (q1 : Nat), .string q2, .string q3, .int .i64 q4, .int .i64 q5, .bool q6, .bool q7, .pointer xp, .int .i64 q9, .string q10, .string q11, .slice s1 s2 s3] 92)) wr.heap.size (itVals (.mk q0 q1 q2 q3 q4 q5 q6 q7 q8 q9 q10 q11 q12) (.pointer xp) (.slice s1 s2 s3))) := I5
      clear a0 a1 a2 a3 a4 a5 a6 a7 a8 a9 a10 a11 a12 z1 hA1
      generalize wr.alloc (.cells #[.int .i64 q0, .int .i64 (q1 : Nat), .string q2, .string q3, .int .i64 q4, .int .i64 q5, .bool q6, .bool q7, .pointer xp, .int .i64 q9, .string q10, .string q11, .slice s1 s2 s3] 92) = w5 at *
      obtain ⟨X, hX⟩ : ∃ X, wr.heap.size = X := ⟨_, rfl⟩
      rw [hX] at I5 ⊢
      have c0 : w5.cell? ⟨X, 0, none⟩ = some (.int .i64 q0) := I5.out.cell 0
      have c1 : w5.cell? ⟨X, 1, none⟩ = some (.int .i64 (q1 : Nat)) := I5.out.cell 1
      have c2 : w5.cell? ⟨X, 2, none⟩ = some (.string q2) := I5.out.cell 2
      have c3 : w5.cell? ⟨X, 3, none⟩ = some (.string q3) := I5.out.cell 3
      have c4 : w5.cell? ⟨X, 4, none⟩ = some (.int .i64 q4) := I5.out.cell 4
      have c5 : w5.cell? ⟨X, 5, none⟩ = some (.int .i64 q5) := I5.out.cell 5
      have c6 : w5.cell? ⟨X, 6, none⟩ = some (.bool q6) := I5.out.cell 6
      have c7 : w5.cell? ⟨X, 7, none⟩ = some (.bool q7) := I5.out.cell 7
      have c8 : w5.cell? ⟨X, 8, none⟩ = some (.pointer xp) := I5.out.cell 8
      have c9 : w5.cell? ⟨X, 9, none⟩ = some (.int .i64 q9) := I5.out.cell 9
      have c10 : w5.cell? ⟨X, 10, none⟩ = some (.string q10) := I5.out.cell 10
      have c11 : w5.cell? ⟨X, 11, none⟩ = some (.string q11) := I5.out.cell 11
      have c12 : w5.cell? ⟨X, 12, none⟩ = some (.slice s1 s2 s3) := I5.out.cell 12
      have hXl := I5.out.lt
      go_wp2_with fail
      refine (HC.out w5 B5.out).mono ?_; rintro e w6 ⟨⟨t, rfl, ht⟩, hb⟩
      have B6 := Lib.hid (B5.out.trans (hb.mono B5.out.size))
      have HTt := Lib.hid ht
      have htz : t.size ≤ 4050000 := by rw [← ht] at hln; exact hln
      have k0 := keepCell hb c0
      have k12 := keepCell hb c12
      clear hb ht hln c0 c1 c2 c3 c4 c5 c6 c7 c8 c9 c10 c11 c12 I5 B5
      have e1 : ¬ (9223372036854775807 < pad.size + t.size) := by omega
      have e2 : ¬ (9223372036854775807 < pad.size + t.size + 1) := by omega
      have e3 : ¬ (9223372036854775807 < s.size + (pad.size + t.size + 1)) := by omega
      by_cases h4 : q0 = 4
      · subst h4
        have HE := Lib.hid (HE.out.trans (congrArg (padL d ++ Ln ++ [10] ++ ·) (if_pos rfl)))
        have e4 : ¬ (9223372036854775807 < pad.size + 2) := by omega
        have HT6 := Lib.hid (HT.out w6 B6.out (pad ++ ⟨#[32, 32]⟩) (by rw [dl_append, HP.out]; exact padL_snoc d))
        clear HT
        go_wp2_with fail
        refine (HT6.out).mono ?_; rintro e w7 ⟨⟨u, rfl, hu⟩, hb⟩
        have B7 := Lib.hid (B6.out.trans (hb.mono B6.out.size))
        have HU := Lib.hid hu
        have huz : u.size ≤ 30000000000 := by
          rw [← hu] at hsub
          have : u.data.toList.length = u.size := rfl
          omega
        clear hb hu
        have e5 : ¬ (9223372036854775807 < u.size + pad.size) := by omega
        have e6 : ¬ (9223372036854775807 < u.size + pad.size + 2) := by omega
        have e7 : ¬ (9223372036854775807 < s.size + (pad.size + t.size + 1) + (u.size + pad.size + 2)) := by omega
        go_wp2_with fail
        go_roundw
        case rel =>
          refine ⟨j + 1, _, rfl, by go_num, hlt, Lib.hid ?_, B7⟩
          rw [HS.out, HE.out]
          simp only [dl_append, HTt.out, HU.out, HP.out, List.append_assoc]
          rfl
        case measure => first | (simp [intOf]; done) | (simp [intOf]; omega)
      · have h4' : (q0 == 4) = false := by simpa using h4
        have HE := Lib.hid (HE.out.trans (congrArg (padL d ++ Ln ++ [10] ++ ·) (if_neg h4)))
        clear HT
        go_wp2_with fail
        go_roundw
        case rel =>
          refine ⟨j + 1, _, rfl, by go_num, hlt, Lib.hid ?_, B6⟩
          rw [HS.out, HE.out]
          simp only [dl_append, HTt.out, HP.out, List.append_assoc, List.append_nil]
        case measure => first | (simp [intOf]; done) | (simp [intOf]; omega)
    · have d1 : ¬ (j : Int) < (l.length : Int) := by omega
      have hje : l.take j = l := List.take_of_length_le (by omega)
      rw [hje] at hs
      go_wp2_with fail
      go_ret
      exact ⟨⟨_, rfl, hs.out⟩, HB.out⟩
end
/-- The contract of the document's itemsText. -/
theorem docTexts_any : ∀ n, DtC n
  | 0 => fun _ _ _ _ _ h => absurd h (Nat.not_lt_zero _)
  | n + 1 => docTexts_run (docTexts_any n)
end Go.Proofs.YtofmheeiplagjaaGreatDoor.Tm
