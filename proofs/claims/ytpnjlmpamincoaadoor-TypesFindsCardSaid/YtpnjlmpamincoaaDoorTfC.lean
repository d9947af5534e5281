/-
  PROVED HERE: the contracts of the program's fail, asks, round. Conditions: as each theorem states.
-/
import Derived.Test.YtpnjlmpamincoaaDoorTfA
import Derived.Test.YtpnjlmpamincoaaDoorTfB
namespace Go.Proofs.YtpnjlmpamincoaaDoor.Tm
open Go.RowKit Go.Proofs.YtpnjlmpamincoaaDoor.Lex Go.Proofs.YtpnjlmpamincoaaDoor.Dig
/-- The error f was thrown. -/
def Thr (w' : World) (f : Int × Int) (e : Ending) : Prop := ∃ b, e = .panicked [{ v := .iface 53 (.agg #[.iface 73 (.pointer (some ⟨b, 0, none⟩))]), recovered := false }] ∧ w'.cell? ⟨b, 0, none⟩ = some (.int .i64 f.1) ∧ w'.cell? ⟨b, 1, none⟩ = some (.int .i64 f.2)
/-- Either nothing is wrong, or it was thrown. -/
def Out (f : Int × Int) (e : Ending) (w' : World) : Prop := (f.1 = 0 ∧ e = .returned (.tuple #[])) ∨ (f.1 ≠ 0 ∧ Thr w' f e)
section
variable {W : World}
set_option maxRecDepth 100000 in
theorem fail_any (n k : Int) : Calls Tryd.prog 21 #[.int .i64 n, .int .i64 k] W fun e w' => Thr w' (n, k) e ∧ Below W.heap.size W w' := by
  go_enter Tryd.func21, Tryd.ntmps21
  go_wp2_with fail
  exact ⟨rfl, ⟨W.heap.size, rfl, by simp, by simp⟩, (Below.refl _ _).alloc (Nat.le_refl _) _⟩
set_option maxRecDepth 100000 in
set_option maxHeartbeats 2000000 in
theorem asks_any (seen : List ByteArray) (sv : Value) (ct : Option Ex) (cv : Value) (C : Nat) (hct : CtAt W ct cv) (hz : Lv ct) (hbx : W.cell? ⟨C, 2, none⟩ = some sv) (hs : StrsAt W sv seen) (hl : seen.length ≤ 1000000) : Calls Tryd.prog 32 #[.pointer (some ⟨C, 0, none⟩), cv] W fun e w' => Out (hasC seen (ctN ct)) e w' ∧ Below W.heap.size W w' := by
  have HC := Lib.hid (ctNamesP ct cv hct hz W (Below.refl _ _))
  have hlen := ctN_len hz
  obtain ⟨ns, hns⟩ : ∃ n, ctN ct = n := ⟨_, rfl⟩
  rw [hns] at HC hlen ⊢
  have HS := Lib.hid hs
  obtain ⟨sa, sc, rfl, hsc, _⟩ := id hs
  clear hct hz hns hs
  go_enter Tryd.func32, Tryd.ntmps32
  go_wp2_with fail
  refine (HC.out).mono ?_; rintro e w1 ⟨u, vs, rfl, hq, hn, hb⟩
  obtain ⟨a10, c10, rfl⟩ := hq.len
  have hvl := hn.len
  have HQ := Lib.hid hq
  have HN := Lib.hid hn
  have B1 := Lib.hid hb
  have x0 := keepCell hb hbx
  have HS1 := Lib.hid (HS.out.below hb)
  rw [hvl]
  clear hq hn hb hbx HS HC
  go_wp2_with fail
  go_loopw [9] (fun i wr => Hid (Below w1.heap.size w1 wr) ∧ ∃ k : Nat, i = .int .i64 k ∧ k ≤ ns.length ∧ Hid (hasF seen ns = hasF seen (ns.drop k))) (fun i _ => ns.length - (intOf i).toNat)
  case atStart => exact ⟨Lib.hid (Below.refl _ _), 0, rfl, Nat.zero_le _, Lib.hid rfl⟩
  case round =>
    obtain ⟨hW1, k, rfl, hk, hF⟩ := hrel
    have x1 := keepCell hW1.out x0
    by_cases hlt : k < ns.length
    · obtain ⟨v, hv, g, rfl, hg⟩ := HN.out.get k hlt
      obtain ⟨b10, o10, rfl, y10⟩ := HQ.out.at_ k _ hv
      have hg1 := (B1.out.block g (Array.getElem?_eq_some_iff.1 hg).1).trans hg
      have z1 : wr.cell? ⟨g, 1, none⟩ = some (.int .i64 (ns[k].1 : Nat)) := keepCell hW1.out (ex_cells (W := w1) (cs := [_, _, _, _, _, _, _]) hg1 1)
      have z3 : wr.cell? ⟨g, 3, none⟩ = some (.string ns[k].2) := keepCell hW1.out (ex_cells (W := w1) (cs := [_, _, _, _, _, _, _]) hg1 3)
      have y11 := keepCell hW1.out y10
      have hst := Lib.hid (hF.out.trans (hasF_step hlt))
      have i1 : (0 : Int) ≤ (k : Int) := by omega
      have i2 : (k : Int) < (ns.length : Int) := by omega
      clear hg hg1 hv y10
      obtain ⟨⟨pk, s⟩, hp⟩ : ∃ p, ns[k] = p := ⟨_, rfl⟩
      rw [hp] at z1 z3 hst
      simp only at z1 z3 hst
      clear hp
      have HK := Lib.hid (fun m => containsS_any (W := wr.drewN m) (.slice sa seen.length sc) seen hl (show StrsAt (wr.drewN m) _ seen from StrsAt.below (w' := wr) HS1.out hW1.out) s)
      obtain ⟨bm, hbm⟩ : ∃ q, memB s seen = q := ⟨_, rfl⟩
      rw [hbm] at HK hst
      clear hbm
      go_wp2_with fail
      go_quiet ((go_at_call 49; exact Calls.quiet_of_same (HK.out _)))
      have W5 := Lib.hid (below_drewN hW1.out nq)
      have v1 : (wr.drewN nq).cell? ⟨g, 1, none⟩ = some (.int .i64 (pk : Nat)) := z1
      clear x1 z1 z3 y11 HK hW1
      generalize wr.drewN nq = w5 at *
      cases bm with
      | true =>
        have hR := Lib.hid (hst.out.trans (if_pos rfl))
        clear hst
        go_wp2_with fail
        go_roundw
        case rel => exact ⟨W5, k + 1, by go_num, hlt, hR⟩
        case measure => first | (simp [intOf]; done) | (simp [intOf]; omega)
      | false =>
        have hR := Lib.hid (show hasC seen ns = (5, (pk : Int)) by
          have e := hst.out
          rw [if_neg (by decide)] at e
          unfold hasC
          rw [e])
        clear hst
        go_wp2_with fail
        refine (fail_any 5 (pk : Nat)).mono ?_; rintro e w9 ⟨⟨b9, rfl, q0, q1⟩, hb9⟩
        have B9 := Lib.hid (B1.out.trans ((W5.out.trans (hb9.mono W5.out.size)).mono B1.out.size))
        have T9 := Lib.hid (show Thr w9 (5, (pk : Int)) _ from ⟨b9, rfl, q0, q1⟩)
        clear hb9 q0 q1
        go_wp2_with fail
        exact ⟨rfl, by rw [hR.out]; exact .inr ⟨show (5 : Int) ≠ 0 by decide, T9.out⟩, B9.out⟩
    · have i2 : ¬ (k : Int) < (ns.length : Int) := by omega
      have hR := Lib.hid (show hasC seen ns = good by
        have e := hF.out
        rw [show ns.drop k = [] from List.drop_eq_nil_iff.2 (by omega)] at e
        unfold hasC
        rw [e]
        rfl)
      go_wp2_with fail
      go_end0
      exact ⟨by rw [hR.out]; exact .inl ⟨rfl, rfl⟩, B1.out.trans (hW1.out.mono B1.out.size)⟩
end
end Go.Proofs.YtpnjlmpamincoaaDoor.Tm
