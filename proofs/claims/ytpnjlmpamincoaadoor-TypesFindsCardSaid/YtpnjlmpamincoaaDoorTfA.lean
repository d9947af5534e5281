/-
  PROVED HERE: the contracts of the program's Names, of slices.Contains at texts, of fail and asks. Conditions: as each theorem states.
-/
import Derived.Test.YtpnjlmpamincoaaDoorTnH
import Derived.Test.YtpnjlmpamincoaaDoorErrB
namespace Go.Proofs.YtpnjlmpamincoaaDoor.Tm
open Go.RowKit Go.Proofs.YtpnjlmpamincoaaDoor.Lex Go.Proofs.YtpnjlmpamincoaaDoor.Dig
section
variable {W : World}
set_option maxRecDepth 100000 in
theorem namesP_none {W0 : World} : Calls Tryd.prog 48 #[.pointer none] W (EnP W0 W []) := by
  go_enter Tryd.func48, Tryd.ntmps48
  go_wp2_with fail
  go_ret
  exact en_nil
set_option maxRecDepth 100000 in
set_option maxHeartbeats 2000000 in
theorem namesP_two {W0 : World} {g : Nat} {kd : Int} {pa pb : Option Addr} {nl nr : List (Nat × ByteArray)} (hk : kd ≠ 2) (c0 : W.cell? ⟨g, 0, none⟩ = some (.int .i64 kd)) (c5 : W.cell? ⟨g, 5, none⟩ = some (.pointer pa)) (c6 : W.cell? ⟨g, 6, none⟩ = some (.pointer pb)) (hl : nl.length + nr.length ≤ 4000)
    (hL : ∀ W2, Below W.heap.size W W2 → Calls Tryd.prog 48 #[.pointer pa] W2 (EnP W0 W2 nl)) (hR : ∀ W2, Below W.heap.size W W2 → Calls Tryd.prog 48 #[.pointer pb] W2 (EnP W0 W2 nr)) : Calls Tryd.prog 48 #[.pointer (some ⟨g, 0, none⟩)] W (EnP W0 W (nl ++ nr)) := by
  have IL := Lib.hid hL
  have IR := Lib.hid hR
  have LL := Lib.hid hl
  have e2 : (kd == 2) = false := by simpa using hk
  clear hL hR hl hk
  go_enter Tryd.func48, Tryd.ntmps48
  go_upto_region 5 with fail
  have k0 : Below W.heap.size W W.drew := (Below.refl _ _).drew
  go_region_law (first
    | (refine qu_append_step (by rfl) _ _ 82 (by rfl) W.heap.size 68 (.pointer none) 8 Tryd.underlying82 (by kernel_rfl) rfl u1 vs1 (by rfl) Q3.out u2 vs2 (by rfl) S2.out (by have := L2.out; omega) (by have := L2.out; omega) B2.out.size ?_; intro v3 w3 q4 b4 _; have Q4 := Lib.hid q4; have B4 := Lib.hid b4; clear q4 b4)
    | (go_simp; go_at_call 48; refine (IR.out _ B1).mono ?_; rintro e w2 ⟨u2, vs2, rfl, q2, n2, b2⟩; have N2 := Lib.hid n2; have Q3 := Lib.hid (Q1.out.below b2); have B2 := Lib.hid (B1.trans (b2.mono B1.size)); have L2 := Lib.hid (show vs1.length + vs2.length ≤ 4000 by have := N1.out.len; have := n2.len; have := LL.out; omega); have S2 := Lib.hid (qu_src (T := 82) q2 n2.one Tryd.underlying82); clear n2 q2 b2)
    | (go_simp; go_at_call 48; refine (IL.out _ k0).mono ?_; rintro e w1 ⟨u1, vs1, rfl, q1, n1, b1⟩; have B1 := k0.trans b1; have d6 : w1.cell? ⟨g, 6, none⟩ = some (.pointer pb) := keepCell B1 c6; have N1 := Lib.hid n1; have Q1 := Lib.hid q1; clear n1 q1))
  all_goals go_wp2_with fail
  all_goals go_ret
  all_goals exact ⟨_, _, rfl, Q4.out, NmsAt.app N2.out N1.out, B2.out.trans B4.out⟩
set_option maxRecDepth 100000 in
theorem namesP_any {W0 : World} (x : Ex) : ∀ (v : Value) (W : World), ExAt W0 x v → Below W0.heap.size W0 W → leaves x ≤ 4000 → Calls Tryd.prog 48 #[v] W (EnP W0 W (exN x)) := by
  induction x with
  | num k n =>
    intro v W h hbw _
    unfold ExAt at h
    obtain ⟨g, rfl, hb⟩ := h
    exact namesP_two (nl := []) (nr := []) (kd := 1) (by decide) (keepCell hbw (ex_cells (cs := [_, _, _, _, _, _, _]) hb 0)) (keepCell hbw (ex_cells (cs := [_, _, _, _, _, _, _]) hb 5)) (keepCell hbw (ex_cells (cs := [_, _, _, _, _, _, _]) hb 6)) (Nat.zero_le _) (fun _ _ => namesP_none) (fun _ _ => namesP_none)
  | nam k s =>
    intro v W h hbw _
    unfold ExAt at h
    obtain ⟨g, rfl, hb⟩ := h
    have HB := Lib.hid hb
    have c0 : W.cell? ⟨g, 0, none⟩ = some (.int .i64 2) := keepCell hbw (ex_cells (cs := [_, _, _, _, _, _, _]) hb 0)
    clear hb hbw
    go_enter Tryd.func48, Tryd.ntmps48
    go_wp2_with fail
    go_ret
    exact ⟨_, [.pointer (some ⟨g, 0, none⟩)], rfl, .inr ⟨W.heap.size, 0, 1, rfl, Nat.le_refl _, by simp, Nat.le_refl _, fun j hj => by
      obtain rfl : j = 0 := by omega
      exact ⟨by rw [new_cell]; rfl, by unfold World.frozen?; rw [heap_alloc_new]; simp⟩, fun j u hu => by
      rcases j with _ | j
      · simp at hu; subst hu; exact new_cell _ _ _
      · simp at hu⟩, ⟨⟨g, rfl, HB.out⟩, trivial⟩, (Below.refl _ _).alloc (Nat.le_refl _) _⟩
  | bin k op l r ihl ihr =>
    intro v W h hbw hl
    unfold ExAt at h
    obtain ⟨g, a, b, rfl, hb, hla, hrb⟩ := h
    obtain ⟨pa, rfl⟩ := ex_ptr hla
    obtain ⟨pb, rfl⟩ := ex_ptr hrb
    simp only [leaves] at hl
    have l1 := exN_len l
    have l2 := exN_len r
    exact namesP_two (kd := 3) (by decide) (keepCell hbw (ex_cells (cs := [_, _, _, _, _, _, _]) hb 0)) (keepCell hbw (ex_cells (cs := [_, _, _, _, _, _, _]) hb 5)) (keepCell hbw (ex_cells (cs := [_, _, _, _, _, _, _]) hb 6)) (by omega)
      (fun W2 hb2 => ihl _ W2 hla (hbw.trans (hb2.mono hbw.size)) (by omega)) (fun W2 hb2 => ihr _ W2 hrb (hbw.trans (hb2.mono hbw.size)) (by omega))
theorem ctNamesP (ct : Option Ex) (cv : Value) (hct : CtAt W ct cv) (hz : Lv ct) (w : World) (hb : Below W.heap.size W w) : Calls Tryd.prog 48 #[cv] w (EnP W w (ctN ct)) := by
  cases ct with
  | none => rw [show cv = .pointer none from hct]; exact namesP_none
  | some x => exact namesP_any x cv w hct hb (hz x rfl).1
/-! ### Texts -/
def ixS (y : ByteArray) : List ByteArray → Nat → Option Nat
  | [], _ => none
  | x :: r, j => if y = x then some j else ixS y r (j + 1)
def ixSI (y : ByteArray) (l : List ByteArray) : Int := match ixS y l 0 with | some k => (k : Int) | none => -1
theorem ixS_step {y : ByteArray} {l : List ByteArray} {k : Nat} (h : k < l.length) : ixS y (l.drop k) k = if y = l[k] then some k else ixS y (l.drop (k + 1)) (k + 1) := by
  rw [List.drop_eq_getElem_cons h, ixS]
theorem ixS_mem {y : ByteArray} : ∀ (l : List ByteArray) (j : Nat), (ixS y l j).isSome = memB y l := by
  intro l
  induction l with
  | nil => intro j; rfl
  | cons x r ih =>
    intro j
    rw [ixS]
    unfold memB at ih ⊢
    rw [List.any_cons]
    by_cases h : y = x
    · rw [if_pos h]; simp [h]
    · rw [if_neg h, ih]
      have : decide (x = y) = false := decide_eq_false (fun e => h e.symm)
      rw [this]
      simp
theorem ixSI_mem (y : ByteArray) (l : List ByteArray) : decide (0 ≤ ixSI y l) = memB y l := by
  unfold ixSI
  rw [← ixS_mem l 0]
  cases ixS y l 0 with
  | none => rfl
  | some k => simp
set_option maxRecDepth 100000 in
set_option maxHeartbeats 2000000 in
theorem indexS_any (v : Value) (l : List ByteArray) (hl : l.length ≤ 1000000) (h : StrsAt W v l) (y : ByteArray) : Calls Tryd.prog 62 #[v, .string y] W fun e w' => e = .returned (.int .i64 (ixSI y l)) ∧ w' = W := by
  obtain ⟨a, cap, rfl, _, hcs⟩ := h
  have HO := Lib.hid hcs
  clear hcs
  go_enter Tryd.func62, Tryd.ntmps62
  go_wp2_with fail
  go_loopw [8] (fun i wr => wr = W ∧ ∃ k : Nat, i = .int .i64 k ∧ k ≤ l.length ∧ Hid (ixS y l 0 = ixS y (l.drop k) k)) (fun i _ => l.length - (intOf i).toNat)
  case atStart => exact ⟨rfl, 0, rfl, Nat.zero_le _, Lib.hid rfl⟩
  case round =>
    obtain ⟨rfl, k, rfl, hk, hw⟩ := hrel
    by_cases hlt : k < l.length
    · obtain ⟨b, o, rfl, hc⟩ := HO.out k hlt
      have i1 : (0 : Int) ≤ (k : Int) := by omega
      have i2 : (k : Int) < (l.length : Int) := by omega
      have hst := Lib.hid (hw.out.trans (ixS_step hlt))
      generalize l[k] = x at *
      by_cases h5 : y = x
      · have e2 : (y.toList == x.toList) = true := by rw [h5]; exact beq_self_eq_true _
        have hR := Lib.hid (hst.out.trans (if_pos h5))
        clear h5
        go_wp2_with fail
        go_ret
        refine ⟨?_, rfl⟩
        unfold ixSI
        rw [hR.out]
        rfl
      · have e2 : (y.toList == x.toList) = false := (Go.Lib.bytes_beq_false_iff _ _).2 h5
        have hR := Lib.hid (hst.out.trans (if_neg h5))
        clear h5
        go_wp2_with fail
        go_roundw
        case rel => first | exact ⟨rfl, k + 1, by go_num, hlt, hR⟩ | exact ⟨trivial, k + 1, by go_num, hlt, hR⟩
        case measure => first | (simp [intOf]; done) | (simp [intOf]; omega)
    · have i2 : ¬ (k : Int) < (l.length : Int) := by omega
      go_wp2_with fail
      go_ret
      refine ⟨?_, rfl⟩
      have e := hw.out
      rw [show l.drop k = [] from List.drop_eq_nil_iff.2 (by omega)] at e
      unfold ixSI
      rw [e]
      rfl
set_option maxRecDepth 100000 in
theorem containsS_any (v : Value) (l : List ByteArray) (hl : l.length ≤ 1000000) (h : StrsAt W v l) (y : ByteArray) : Calls Tryd.prog 49 #[v, .string y] W fun e w' => e = .returned (.bool (memB y l)) ∧ w' = W := by
  have C := Lib.hid (indexS_any v l hl h y)
  have hm := ixSI_mem y l
  rw [← hm]
  clear h hm
  go_enter Tryd.func49, Tryd.ntmps49
  go_wp2_with fail
  refine (C.out).mono ?_; rintro e w1 ⟨rfl, rfl⟩
  go_wp2_with fail
  go_ret
  exact ⟨by simp, rfl⟩
end
end Go.Proofs.YtpnjlmpamincoaaDoor.Tm
