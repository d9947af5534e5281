/-
  PROVED HERE: the contract of the document's swaps. Conditions: as each theorem states.
-/
import Derived.Test.YtjicnffafhbmbaaDoorBoC
import Derived.Test.YtjicnffafhbmbaaDoorChv
import Derived.Test.YtjicnffafhbmbaaDoorTac
import Derived.Test.YtjicnffafhbmbaaDoorEds
import Derived.Deep.DeepCutAuto
import Derived.Deep.CutBlock
import Derived.StillTailTactics
namespace Go.Proofs.YtjicnffafhbmbaaDoor.Bo
open Go.RowKit Go.Proofs.YtjicnffafhbmbaaDoor.My

def DoR (l : List Ed) (W : World) (v pv ov iv : Value) (wr : World) : Prop := ∃ (k : Nat) (s : St), k ≤ l.length ∧ iv = .int .i64 k ∧ Hid (OwnC 37 wr W.heap.size v s.out) ∧ pv = .int .i64 (s.pos : Nat) ∧ ov = .bool s.new ∧ Hid (StK l k s) ∧ Hid ((l.drop k).foldl chgStep s = l.foldl chgStep ⟨[], 0, true⟩) ∧ Hid (Below W.heap.size W wr)
set_option maxRecDepth 100000 in
set_option maxHeartbeats 4000000 in
theorem swaps_any (v : Value) (l : List Ed) (W : World) (hl : Eds W v l) (hok : ∀ e ∈ l, EdOk e) (hN : sumN l ≤ 1000) (hT : sumT l ≤ 1000) (hn : l.length ≤ 1000) :
    Calls Tryd.prog 8 #[v] W fun e w' => ∃ v', e = .returned v' ∧ OwnC 37 w' W.heap.size v' (chg l) ∧ Below W.heap.size W w' := by
  have hcH := Lib.hid hl
  have hokH := Lib.hid hok
  obtain ⟨a, cap, rfl, -⟩ := hl
  clear hok
  unfold chg
  go_enter Tryd.func8, Tryd.ntmps8
  go_wp2_with fail
  go_loopw [3, 4, 5, 11] (fun v pv ov iv wr => DoR l W v pv ov iv wr) (fun _ _ _ iv _ => l.length - (intOf iv).toNat)
  case atStart => exact ⟨0, ⟨[], 0, true⟩, Nat.zero_le _, rfl, Lib.hid (ownC_nil _ _), rfl, rfl, Lib.hid (stk0 l), Lib.hid rfl, Lib.hid (Below.refl _ _)⟩
  case round =>
    obtain ⟨k, s, hk, rfl, hO, rfl, rfl, hS, hF, hB⟩ := hrel
    by_cases hlt : k < l.length
    · obtain ⟨ad, rfl, d0, d1, d2⟩ := hcH.out.at_ k hlt
      have d0 := keepCell hB.out d0
      have d1 := keepCell hB.out d1
      have d2 := keepCell hB.out d2
      have HS2 := Lib.hid (stk_next hS.out hlt (hokH.out _ (List.getElem_mem hlt)))
      have HF2 : Hid ((l.drop (k + 1)).foldl chgStep (chgStep s l[k]) = l.foldl chgStep ⟨[], 0, true⟩) := Lib.hid (by have := hF.out; rw [List.drop_eq_getElem_cons hlt] at this; exact this)
      have he := hokH.out _ (List.getElem_mem hlt)
      have hb : s.pos ≤ 1000 ∧ l[k].n.toNat ≤ 1000 ∧ l[k].text.size ≤ 1000 ∧ s.out.length ≤ 1000 ∧ ∀ c ∈ s.out, c.text.size ≤ 1000 := by
        obtain ⟨T, h1, h2, h3, h4⟩ := hS.out
        rw [List.drop_eq_getElem_cons hlt] at h2 h3
        rw [sumT_cons] at h2
        rw [sumN_cons] at h3
        exact ⟨by omega, by omega, by omega, by omega, fun c hc => by have := h1.2.1 c hc; omega⟩
      obtain ⟨hb1, hb2, hb3, hb4, hb5⟩ := hb
      have HO := Lib.hid (show ∃ T, StOk T s from by obtain ⟨T, h1, _⟩ := hS.out; exact ⟨T, h1⟩)
      generalize l[k] = e at *
      obtain ⟨wh, n, tx⟩ := e
      simp only at d0 d1 d2 he hb2 hb3
      obtain ⟨he0, he1⟩ := he
      obtain ⟨n, rfl⟩ := Int.eq_ofNat_of_zero_le he0
      have i1 : (0 : Int) ≤ (k : Int) := by omega
      have i2 : (k : Int) < (l.length : Int) := by omega
      obtain ⟨m, hm⟩ : ∃ m : Nat, m = s.pos + n := ⟨_, rfl⟩
      have y : ((s.pos : Nat) : Int) + (n : Int) = (m : Int) := by omega
      have v1 : IntKind.i64.wrap (((s.pos : Nat) : Int) + (n : Int)) = (m : Int) := by rw [y, IntKind.wrap_i64]; omega
      have hm2 : m ≤ 2000 := by simp at hb2; omega
      have HM := Lib.hid hm
      clear hS hF hcH hokH he0 he1 hb2 hm
      by_cases hw : wh = 1
      · subst hw
        have HSN : Hid (StK l (k + 1) ⟨s.out, m, true⟩) := Lib.hid (by have := HS2.out; rw [chgStep, if_pos rfl] at this; rw [HM.out]; exact this)
        have HFN : Hid ((l.drop (k + 1)).foldl chgStep ⟨s.out, m, true⟩ = l.foldl chgStep ⟨[], 0, true⟩) := Lib.hid (by have := HF2.out; rw [chgStep, if_pos rfl] at this; rw [HM.out]; exact this)
        obtain ⟨ou, pos, nw⟩ := s
        simp only at *
        clear HS2 HF2 HO
        go_wp2_with fail
        go_roundw
        case rel => first | exact ⟨k + 1, ⟨ou, m, true⟩, by omega, by go_num, Lib.hid (hO.out.alloc _), rfl, rfl, HSN, HFN, Lib.hid (hB.out.alloc hB.out.size _)⟩ | ((repeat apply Exists.intro); exact ⟨⟨k + 1, ⟨ou, m, true⟩, by omega, by go_num, Lib.hid (hO.out.alloc _), rfl, rfl, HSN, HFN, Lib.hid (hB.out.alloc hB.out.size _)⟩, rfl⟩)
        case measure => simp [intOf]; omega
      · have hw1 : (wh == 1) = false := by rw [beq_eq_false_iff_ne]; exact hw
        have HSN0 := Lib.hid (show StK l (k + 1) ⟨lastTo (opened s) tx m, m, false⟩ from by have := HS2.out; rw [chgStep, if_neg hw] at this; rw [HM.out]; exact this)
        have HFN0 := Lib.hid (show (l.drop (k + 1)).foldl chgStep ⟨lastTo (opened s) tx m, m, false⟩ = l.foldl chgStep ⟨[], 0, true⟩ from by have := HF2.out; rw [chgStep, if_neg hw] at this; rw [HM.out]; exact this)
        clear HS2 HF2
        have HOP := Lib.hid (show s.new = false → ∃ d c, s.out = d ++ [c] from fun hn => by obtain ⟨T, h1⟩ := HO.out; rcases h1.2.2 with h | h; exact absurd (hn.symm.trans h.1) (by decide); obtain ⟨_, d, c, h, _⟩ := h; exact ⟨d, c, h⟩)
        clear HO
        obtain ⟨ou, pos, nw⟩ := s
        simp only at *
        cases nw
        · obtain ⟨d, c, rfl⟩ := HOP.out rfl
          have HSN : Hid (StK l (k + 1) ⟨d ++ [⟨c.fr, m, c.text ++ tx⟩], m, false⟩) := Lib.hid (by have := HSN0.out; rw [show opened ⟨d ++ [c], pos, false⟩ = d ++ [c] from rfl, lastTo_snoc] at this; exact this)
          have HFN : Hid ((l.drop (k + 1)).foldl chgStep ⟨d ++ [⟨c.fr, m, c.text ++ tx⟩], m, false⟩ = l.foldl chgStep ⟨[], 0, true⟩) := Lib.hid (by have := HFN0.out; rw [show opened ⟨d ++ [c], pos, false⟩ = d ++ [c] from rfl, lastTo_snoc] at this; exact this)
          have hct := hb5 c (by simp)
          have q5 : ¬ (9223372036854775807 < c.text.size + tx.size) := by omega
          clear HSN0 HFN0 HOP hb5
          rcases hO.out.2 with ⟨_, h0⟩ | ⟨g, cap2, cur, hv, hbg, _, _⟩
          · simp at h0
          rw [show (d ++ [c]).length = d.length + 1 by simp] at hv hb4
          subst hv
          have hgG : g ≠ wr.heap.size := Nat.ne_of_lt (World.ownsRow.lt hO.out g rfl).2
          have k1 : (0 : Int) ≤ (d.length : Int) := by omega
          have k2 : ((d.length + 1 : Nat) : Int) - 1 = (d.length : Int) := by omega
          have k3 : (d.length : Int) < ((d.length + 1 : Nat) : Int) := by omega
          obtain ⟨w5, hw5⟩ : ∃ w5, w5 = wr.alloc (.cells #[.int .i64 wh, .int .i64 (n : Int), .string tx] 58) := ⟨_, rfl⟩
          have HO5 := Lib.hid (show OwnC 37 w5 W.heap.size _ _ from by rw [hw5]; exact hO.out.alloc _)
          have HB5 : Hid (Below W.heap.size W w5) := Lib.hid (by rw [hw5]; exact hB.out.alloc hB.out.size _)
          have x0 : w5.cell? ⟨wr.heap.size, 0, none⟩ = some (.int .i64 wh) := by rw [hw5]; simp [go_sem]
          have x1 : w5.cell? ⟨wr.heap.size, 1, none⟩ = some (.int .i64 (n : Int)) := by rw [hw5]; simp [go_sem]
          have x2 : w5.cell? ⟨wr.heap.size, 2, none⟩ = some (.string tx) := by rw [hw5]; simp [go_sem]
          have HD := Lib.hid (rfl : d.length = d.length)
          obtain ⟨⟨c0, c1, c2⟩, hf⟩ := lastC_cells HD.out HO5.out
          clear HD
          go_upto_region 12 with fail
          rw [← hw5]
          clear hw5 hO hB d0 d1 d2
          generalize wr.heap.size = G at *
          generalize hD : d.length = D at *
          have HD := Lib.hid hD
          clear hD
          have k4 : (D : Int) < (D : Int) + 1 := by omega
          have f2 := hf (D * 3 + 2)
          have f2' : w5.drew.frozen? ⟨g, D * 3 + 2, none⟩ = false := f2
          have HO6 : Hid (OwnC 37 ((w5.setCell ⟨g, D * 3 + 2, none⟩ (.string (c.text ++ tx))).drew) W.heap.size _ _) := Lib.hid (lastC_text HD.out HO5.out (c.text ++ tx)).drew
          have HB6 : Hid (Below W.heap.size W ((w5.setCell ⟨g, D * 3 + 2, none⟩ (.string (c.text ++ tx))).drew)) := Lib.hid (HB5.out.setCell (p := ⟨g, D * 3 + 2, none⟩) hbg _).drew
          obtain ⟨⟨-, z1, -⟩, hf2⟩ := lastC_cells HD.out HO6.out
          have z2 := hf2 (D * 3 + 1)
          have z3 : ((w5.setCell ⟨g, D * 3 + 2, none⟩ (.string (c.text ++ tx))).drew).cell? ⟨G, 1, none⟩ = some (.int .i64 (n : Nat)) := (World.cell?_setCell_other _ _ _ _ (by intro e; injection e with e; exact hgG e)).trans x1
          simp only at z1
          clear c0 c1 hf hf2
          go_wp2_with fail
          go_still_tail 10, (by kernel_rfl)
          go_wp2_with fail
          have HO7 : Hid (OwnC 37 (((w5.setCell ⟨g, D * 3 + 2, none⟩ (.string (c.text ++ tx))).setCell ⟨g, D * 3 + 1, none⟩ (.int .i64 (m : Nat))).drew) W.heap.size _ _) := Lib.hid (lastC_to HD.out (lastC_text HD.out HO5.out (c.text ++ tx)) m).drew
          have HB7 : Hid (Below W.heap.size W (((w5.setCell ⟨g, D * 3 + 2, none⟩ (.string (c.text ++ tx))).setCell ⟨g, D * 3 + 1, none⟩ (.int .i64 (m : Nat))).drew)) := Lib.hid ((HB5.out.setCell (p := ⟨g, D * 3 + 2, none⟩) hbg _).setCell (p := ⟨g, D * 3 + 1, none⟩) hbg _).drew
          clear HO5 HB5 HO6 HB6 x1 x2 c2 f2 f2' z1 z2 z3
          generalize ((w5.setCell ⟨g, D * 3 + 2, none⟩ (.string (c.text ++ tx))).setCell ⟨g, D * 3 + 1, none⟩ (.int .i64 (m : Nat))).drew = w7 at *
          go_roundw
          case rel => first | exact ⟨k + 1, ⟨d ++ [⟨c.fr, m, c.text ++ tx⟩], m, false⟩, by omega, by go_num, HO7, rfl, rfl, HSN, HFN, HB7⟩ | ((repeat apply Exists.intro); exact ⟨⟨k + 1, ⟨d ++ [⟨c.fr, m, c.text ++ tx⟩], m, false⟩, by omega, by go_num, HO7, rfl, rfl, HSN, HFN, HB7⟩, rfl⟩)
          case measure => simp [intOf]; omega
        · have HSN : Hid (StK l (k + 1) ⟨ou ++ [⟨pos, m, ⟨#[]⟩ ++ tx⟩], m, false⟩) := Lib.hid (by have := HSN0.out; rw [show opened ⟨ou, pos, true⟩ = ou ++ [⟨pos, pos, ⟨#[]⟩⟩] from rfl, lastTo_snoc] at this; exact this)
          have HFN : Hid ((l.drop (k + 1)).foldl chgStep ⟨ou ++ [⟨pos, m, ⟨#[]⟩ ++ tx⟩], m, false⟩ = l.foldl chgStep ⟨[], 0, true⟩) := Lib.hid (by have := HFN0.out; rw [show opened ⟨ou, pos, true⟩ = ou ++ [⟨pos, pos, ⟨#[]⟩⟩] from rfl, lastTo_snoc] at this; exact this)
          clear HSN0 HFN0 HOP hb5
          obtain ⟨c, hc⟩ : ∃ c : Ch, c = ⟨pos, pos, ⟨#[]⟩⟩ := ⟨_, rfl⟩
          rw [show (⟨pos, m, ⟨#[]⟩ ++ tx⟩ : Ch) = ⟨c.fr, m, c.text ++ tx⟩ by rw [hc]] at HSN HFN
          have hct : c.text.size ≤ 1000 := by rw [hc]; exact Nat.zero_le _
          have q5 : ¬ (9223372036854775807 < c.text.size + tx.size) := by omega
          have hlen : ou.length + 1 ≤ 1000000 := by omega
          have hoB : ∀ k, Value.ownBlock u3 = some k → k < wr.heap.size := fun k h => (World.ownsRow.lt hO.out k h).2
          go_upto_region 12 with (at_builtin; go_loud (refine ownC_append1 chT_swap rfl _ _ rfl W.heap.size _ ou rfl ((hO.out.alloc _).alloc _) _ 1 ⟨pos, pos, ⟨#[]⟩⟩ rfl (heap_new1 _ _ _) hlen (by have := hB.out.size; simp; omega) ?_); intro v5 w5 ho1 hg1 hb1 hat1; obtain ⟨g, cap2, hv, hbg⟩ := own_form ho1; have hgG := grown_ne hv hat1 hoB; have x1 := box_kept hg1 (G := wr.heap.size) (by simp; omega) (fun e => absurd (hoB _ e) (Nat.lt_irrefl _)) (j := 1) (x := .int .i64 (n : Int)) (by simp [go_sem]); have x2 := box_kept hg1 (G := wr.heap.size) (by simp; omega) (fun e => absurd (hoB _ e) (Nat.lt_irrefl _)) (j := 2) (x := .string tx) (by simp [go_sem]); have HB5 := Lib.hid (((hB.out.alloc hB.out.size _).alloc (by have := hB.out.size; simp; omega) _).trans hb1); have HO5 := Lib.hid ho1; clear ho1 hg1 hb1 hat1)
          subst hv
          rw [← hc] at HO5
          clear hc
          generalize hdd : ou = d at *
          have HD := Lib.hid (rfl : d.length = d.length)
          obtain ⟨⟨c0, c1, c2⟩, hf⟩ := lastC_cells HD.out HO5.out
          clear HD
          have k1 : (0 : Int) ≤ (d.length : Int) := by omega
          have k2 : ((d.length + 1 : Nat) : Int) - 1 = (d.length : Int) := by omega
          have k3 : (d.length : Int) < ((d.length + 1 : Nat) : Int) := by omega
          clear hO hB d0 d1 d2
          generalize wr.heap.size = G at *
          generalize hD : d.length = D at *
          have HD := Lib.hid hD
          clear hD
          have k4 : (D : Int) < (D : Int) + 1 := by omega
          have f2 := hf (D * 3 + 2)
          have f2' : w5.drew.frozen? ⟨g, D * 3 + 2, none⟩ = false := f2
          have HO6 : Hid (OwnC 37 ((w5.setCell ⟨g, D * 3 + 2, none⟩ (.string (c.text ++ tx))).drew) W.heap.size _ _) := Lib.hid (lastC_text HD.out HO5.out (c.text ++ tx)).drew
          have HB6 : Hid (Below W.heap.size W ((w5.setCell ⟨g, D * 3 + 2, none⟩ (.string (c.text ++ tx))).drew)) := Lib.hid (HB5.out.setCell (p := ⟨g, D * 3 + 2, none⟩) hbg _).drew
          obtain ⟨⟨-, z1, -⟩, hf2⟩ := lastC_cells HD.out HO6.out
          have z2 := hf2 (D * 3 + 1)
          have z3 : ((w5.setCell ⟨g, D * 3 + 2, none⟩ (.string (c.text ++ tx))).drew).cell? ⟨G, 1, none⟩ = some (.int .i64 (n : Nat)) := (World.cell?_setCell_other _ _ _ _ (by intro e; injection e with e; exact hgG e)).trans x1
          simp only at z1
          clear c0 c1 hf hf2
          go_wp2_with fail
          go_still_tail 10, (by kernel_rfl)
          go_wp2_with fail
          have HO7 : Hid (OwnC 37 (((w5.setCell ⟨g, D * 3 + 2, none⟩ (.string (c.text ++ tx))).setCell ⟨g, D * 3 + 1, none⟩ (.int .i64 (m : Nat))).drew) W.heap.size _ _) := Lib.hid (lastC_to HD.out (lastC_text HD.out HO5.out (c.text ++ tx)) m).drew
          have HB7 : Hid (Below W.heap.size W (((w5.setCell ⟨g, D * 3 + 2, none⟩ (.string (c.text ++ tx))).setCell ⟨g, D * 3 + 1, none⟩ (.int .i64 (m : Nat))).drew)) := Lib.hid ((HB5.out.setCell (p := ⟨g, D * 3 + 2, none⟩) hbg _).setCell (p := ⟨g, D * 3 + 1, none⟩) hbg _).drew
          clear HO5 HB5 HO6 HB6 x1 x2 c2 f2 f2' z1 z2 z3
          generalize ((w5.setCell ⟨g, D * 3 + 2, none⟩ (.string (c.text ++ tx))).setCell ⟨g, D * 3 + 1, none⟩ (.int .i64 (m : Nat))).drew = w7 at *
          go_roundw
          case rel => first | exact ⟨k + 1, ⟨d ++ [⟨c.fr, m, c.text ++ tx⟩], m, false⟩, by omega, by go_num, HO7, rfl, rfl, HSN, HFN, HB7⟩ | ((repeat apply Exists.intro); exact ⟨⟨k + 1, ⟨d ++ [⟨c.fr, m, c.text ++ tx⟩], m, false⟩, by omega, by go_num, HO7, rfl, rfl, HSN, HFN, HB7⟩, rfl⟩)
          case measure => simp [intOf]; omega
    · obtain rfl : k = l.length := by omega
      have hE := Lib.hid (show l.foldl chgStep ⟨[], 0, true⟩ = s from by rw [← hF.out, List.drop_length]; rfl)
      go_wp2_with fail
      go_ret
      exact ⟨_, rfl, by rw [hE.out]; exact hO.out, hB.out⟩
end Go.Proofs.YtjicnffafhbmbaaDoor.Bo
