/-
  PROVED HERE: the document's Chosen at one closure. Conditions: as each theorem states.
-/
import Derived.Test.YthpenogkejoljaaSpJ
namespace Go.Proofs.Ythpenogkejoljaa.Sp
open Go.RowKit
set_option maxRecDepth 100000 in
set_option maxHeartbeats 4000000 in
theorem chosen_any3 (w : World) (c c' : Value) (v : Value) (ls : List (List Spn)) (F : Int → Bool) (h : Lls w v ls) (hb : ∀ l ∈ ls, ∀ x ∈ l, I64 x.1 ∧ I64 x.2) (hn : ls.flatten.length ≤ 500) (hn2 : ls.length ≤ 100)
    (hcall : ∀ W', Below w.heap.size w W' → ∀ a, Calls Try.prog 15 #[.int .i64 a, c, c'] W' fun e w' => e = .returned (.bool (F a)) ∧ Below W'.heap.size W' w')
    (hconst : ∀ e, Up e → (∀ x ∈ e, 0 ≤ x) → (∀ l ∈ ls, Ends e l) → ∀ a j, ∀ h : j + 1 < e.length, e[j] ≤ a → a < e[j + 1] → (F a = true ↔ F e[j] = true)) (hlast : ∀ e, (∀ l ∈ ls, Ends e l) → ∀ a, 0 ≤ a → F a = true → ∃ x ∈ e, a < x) :
    Calls Try.prog 11 #[.func (.func 15) #[] #[c, c'], v] w (ChoP ls F w) := by
  have C1 := Lib.hid (ends_any w v ls h hb hn hn2)
  have HC := Lib.hid hcall
  have HFit := Lib.hid (fun x (hx : EndOf ls.flatten x) => endOf_fit hb hx)
  have HCo := Lib.hid hconst
  have HLa := Lib.hid hlast
  obtain ⟨a, cap, rfl, -⟩ := h
  clear hcall hconst hlast hb
  go_enter Try.func11, Try.ntmps11
  go_wp2_with fail
  refine C1.out.mono ?_; rintro e w1 ⟨v1, r, rfl, hi, hu, hm, hl, hb1⟩
  have hr0 : (0 : Int) ∈ r := (hm 0).2 (.inl rfl)
  have hrl : 0 < r.length := List.length_pos_of_mem hr0
  rcases hi.form with ⟨_, _, _, e0⟩ | ⟨ad, cp, rfl, hcells⟩
  · rw [e0] at hr0; cases hr0
  have HU := Lib.hid hu
  have HM := Lib.hid hm
  have HCl := Lib.hid hcells
  have HB1 := Lib.hid hb1
  clear C1 hi hu hm hcells hb1
  go_wp2_with fail
  go_loopw [6, 7] (fun v i wr => ∃ (k : Nat) (o : List Spn), k + 1 ≤ r.length ∧ i = .int .i64 (k : Int) ∧ (∃ p c, v = .slice p o.length c) ∧ o.length ≤ k ∧ Hid (∀ y ∈ o, y.1 ∈ r ∧ y.2 ∈ r) ∧ Hid (Ch r (fun a => F a = true) k o) ∧ Hid (OwnS wr w1.heap.size v o ∧ Below w1.heap.size w1 wr)) (fun _ i _ => r.length - (intOf i).toNat)
  case atStart => exact ⟨0, [], hrl, rfl, ⟨_, _, rfl⟩, Nat.le_refl _, Lib.hid (fun y hy => by cases hy), Lib.hid (ch_zero r _), Lib.hid ⟨ownS_nil _ _, Below.refl _ _⟩⟩
  case round =>
    obtain ⟨k, o, hk, rfl, ⟨p2, c2, rfl⟩, hok, hY, hCh, hO⟩ := hrel
    have kw : IntKind.i64.wrap ((k : Int) + 1) = (k : Int) + 1 := IntWalk.i64_in _ (by omega)
    by_cases hlt : k + 1 < r.length
    · have i1 : (0 : Int) ≤ (k : Int) := by omega
      have i2 : (k : Int) < (r.length : Int) := by omega
      have i3 : (k : Int) + 1 < (r.length : Int) := by omega
      have i4 : (0 : Int) ≤ (k : Int) + 1 := by omega
      have hpos : ∀ x ∈ r, 0 ≤ x := fun x hx => (HFit.out x ((HM.out x).1 hx)).2
      have hskip := Lib.hid (fun (hf : F r[k] = false) => ch_skip HU.out hCh.out hlt (by rw [hf]; decide))
      have hnew := Lib.hid (fun (hf : F r[k] = true) => ch_new HU.out hpos hCh.out hlt hf)
      have hgrow := Lib.hid (fun o' x (e : o = o' ++ [x]) (hf : F r[k] = true) => ch_grow (x := x) (o := o') HU.out (e ▸ hCh.out) hlt hf)
      have z0 := keepCell hO.out.2 (HCl.out k (by omega))
      have z1 := keepCell hO.out.2 (HCl.out (k + 1) hlt)
      rw [add_succ] at z1
      have SK := Lib.hid (fun W' (hB : Below w1.heap.size w1 W') => (show W'.cell? (ad.add k) = some (.int .i64 r[k]) ∧ W'.cell? ⟨ad.block, ad.off + (k + 1), none⟩ = some (.int .i64 r[k + 1]) from ⟨keepCell hB (HCl.out k (by omega)), by rw [← add_succ]; exact keepCell hB (HCl.out (k + 1) hlt)⟩))
      have m0 : r[k] ∈ r := List.getElem_mem _
      have m1 : r[k + 1] ∈ r := List.getElem_mem _
      have C2 := Lib.hid (HC.out _ (HB1.out.trans (hO.out.2.mono HB1.out.size)) r[k])
      clear hCh hpos
      generalize r[k] = a0 at *
      generalize r[k + 1] = a1 at *
      go_wp2_with fail
      refine C2.out.mono ?_; rintro e w3 ⟨rfl, hb3⟩
      have z0' := keepCell hb3 z0
      have z1' := keepCell hb3 z1
      have hO3 := Lib.hid (And.intro (hO.out.1.below hb3) (hO.out.2.trans (hb3.mono hO.out.2.size)))
      clear hb3 z0 z1 hO C2
      cases hF : F a0 with
      | false =>
        have MM := hY
        have HS := Lib.hid (hskip.out hF)
        clear hskip hnew hgrow hF
        have LEN := hO3.out.1.len
        go_wp2_with fail
        go_roundw
        case rel => first | exact ⟨k + 1, o, by omega, by go_num, LEN, by omega, MM, HS, hO3⟩ | ((repeat apply Exists.intro); exact ⟨⟨k + 1, o, by omega, by go_num, LEN, by omega, MM, HS, hO3⟩, rfl⟩)
        case measure => simp [intOf]; omega
      | true =>
        go_upto_region 8 with fail
        rcases List.eq_nil_or_concat o with ho | ⟨o', x, ho⟩
        · have HS := Lib.hid (hnew.out hF (fun o' x e => by rw [ho] at e; exact absurd (congrArg List.length e) (by simp)))
          have MM := Lib.hid (keep_mem hY.out m0 m1)
          have j3 : decide (0 < o.length) = false := decide_eq_false (by rw [ho]; simp)
          clear hskip hnew hgrow hF hY ho
          go_quiet (fail)
          all_goals
            go_wp2_with fail
            go_region_held3 (fun w' => w'.cell? (ad.add k) = some (.int .i64 a0) ∧ w'.cell? ⟨ad.block, ad.off + (k + 1), none⟩ = some (.int .i64 a1)) (first | exact SK.out _ hO4.out.2 | (go_split_ands; refine ⟨?_, ?_⟩ <;> assumption) | go_keep) (first | (refine ownS_append_step (by rfl) _ _ (by rfl) w1.heap.size _ o rfl ((hO3.out.1.drewN (nq + 1)).alloc _) (w3.drewN (nq + 1)).heap.size _ (a0, a1) rfl (heap_alloc_new (w3.drewN (nq + 1)) _) (by omega) (by have := hO3.out.2.size; simp; omega) ?_; intro v4 w4 ho4 hg4 hb4 hat4; have hO4 := Lib.hid (And.intro ho4 (((below_drewN hO3.out.2 (nq + 1)).alloc (w := w3.drewN (nq + 1)) hO3.out.2.size _).trans hb4)); clear ho4 hg4 hb4 hat4))
            all_goals
              go_wp2_with fail
              have LEN := hO4.out.1.len
              go_roundw
              case rel => first | exact ⟨k + 1, o ++ [(a0, a1)], by omega, by go_num, LEN, by simp; omega, MM, HS, hO4⟩ | ((repeat apply Exists.intro); exact ⟨⟨k + 1, o ++ [(a0, a1)], by omega, by go_num, LEN, by simp; omega, MM, HS, hO4⟩, rfl⟩)
              case measure => simp [intOf]; omega
        · rw [List.concat_eq_append] at ho
          obtain ⟨xa, xb⟩ := x
          have hol : o.length = o'.length + 1 := by rw [ho]; simp
          obtain ⟨ad2, hp2, c0, c1⟩ := hO3.out.1.sps.at_ o'.length (by omega)
          have hown := hO3.out.1
          rcases hown.2 with ⟨e, h0⟩ | ⟨g2, cap', cur, e, hbg, hblk, _⟩
          · exfalso; rw [hol] at h0; omega
          simp only [Value.slice.injEq] at e
          obtain ⟨rfl, _, rfl⟩ := e
          obtain rfl : ad2 = ⟨g2, 0, none⟩ := by simpa using hp2.symm
          clear hp2
          have hlast : o[o'.length]'(by omega) = (xa, xb) := by simp [ho]
          rw [hlast] at c0 c1
          rw [Addr.add_mid, Nat.zero_add] at c0 c1
          simp only at c0 c1
          clear hlast
          have hfz : w3.frozen? ⟨g2, o'.length * 2 + 1, none⟩ = false := by simp [World.frozen?, hblk]
          have hset : ∀ M : Int, o.set o'.length (xa, M) = o' ++ [(xa, M)] := fun M => by rw [ho]; simp
          have hset2 : (o[o'.length]'(by omega)).1 = xa := by simp [ho]
          have hown2 : Hid (∀ n M, OwnS ((w3.drewN n).setCell ⟨g2, o'.length * 2 + 1, none⟩ (.int .i64 M)) w1.heap.size (.slice (some ⟨g2, 0, none⟩) (o'.length + 1) c2) (o' ++ [(xa, M)])) := Lib.hid (fun n M => by
            have h := (hO3.out.1.drewN n).setTo o'.length (by omega) M
            rw [hset2, hset M, hol] at h
            exact h)
          have hmx := Lib.hid (show xa ∈ r ∧ ∀ y ∈ o', y.1 ∈ r ∧ y.2 ∈ r from ⟨(hY.out (xa, xb) (by rw [ho]; exact List.mem_append_right _ (List.mem_singleton.2 rfl))).1, fun y hy => hY.out y (by rw [ho]; exact List.mem_append_left _ hy)⟩)
          clear hset2 hset
          generalize ht : o'.length = t at *
          have j0 : IntKind.i64.wrap ((o.length : Int) - 1) = (t : Int) := by rw [IntWalk.i64_in _ (by omega)]; omega
          have j1 : (0 : Int) ≤ (t : Int) := by omega
          have j2 : (t : Int) < (o.length : Int) := by omega
          have j3 : decide (0 < o.length) = true := decide_eq_true (by omega)
          have j3b : 0 < o.length := by omega
          by_cases hle : xb = a0
          · have j4 : (xb == a0) = true := by simp [hle]
            have j5 : decide (xb = a0) = true := decide_eq_true hle
            have HS := Lib.hid (hgrow.out o' (xa, xb) ho hF hle)
            have MM := Lib.hid (keep_mem hmx.out.2 hmx.out.1 m1)
            have HT := Lib.hid ht
            have HOL := Lib.hid hol
            clear hskip hnew hgrow hF hY ho hown ht hblk hle
            go_quiet (fail)
            all_goals
              go_wp2_with fail
              have O3 := fun n => Lib.hid (And.intro (show OwnS ((w3.drewN n).setCell ⟨g2, t * 2 + 1, none⟩ (.int .i64 a1)) w1.heap.size (.slice (some ⟨g2, 0, none⟩) o.length c2) (o' ++ [(xa, a1)]) from by rw [HOL.out]; exact hown2.out n a1) ((below_drewN hO3.out.2 n).setCell (p := ⟨g2, t * 2 + 1, none⟩) hbg (.int .i64 a1)))
              have LEN : ∃ p c, Value.slice (some ⟨g2, 0, none⟩) o.length c2 = .slice p (o' ++ [(xa, a1)]).length c := ⟨_, _, by rw [List.length_append, HT.out, HOL.out]; rfl⟩
              go_roundw
              case rel => exact ⟨k + 1, o' ++ [(xa, a1)], by omega, by go_num, LEN, by rw [List.length_append, HT.out]; simp only [List.length_cons, List.length_nil]; omega, MM, HS, O3 nq⟩
              case measure => simp [intOf]; omega
          · have j4 : (xb == a0) = false := by simp [hle]
            have j5 : decide (xb = a0) = false := decide_eq_false hle
            have HS := Lib.hid (hnew.out hF (fun o2 x2 e => by rw [ho] at e; have := List.append_inj_right' e rfl; simp at this; rw [← this]; exact hle))
            have MM := Lib.hid (keep_mem hY.out m0 m1)
            clear hskip hnew hgrow hF hY ho hown ht hblk hle hol
            go_quiet (fail)
            all_goals
              go_wp2_with fail
              go_region_held3 (fun w' => w'.cell? (ad.add k) = some (.int .i64 a0) ∧ w'.cell? ⟨ad.block, ad.off + (k + 1), none⟩ = some (.int .i64 a1)) (first | exact SK.out _ hO4.out.2 | (go_split_ands; refine ⟨?_, ?_⟩ <;> assumption) | go_keep) (first | (refine ownS_append_step (by rfl) _ _ (by rfl) w1.heap.size _ o rfl ((hO3.out.1.drewN (nq + 1)).alloc _) (w3.drewN (nq + 1)).heap.size _ (a0, a1) rfl (heap_alloc_new (w3.drewN (nq + 1)) _) (by omega) (by have := hO3.out.2.size; simp; omega) ?_; intro v4 w4 ho4 hg4 hb4 hat4; have hO4 := Lib.hid (And.intro ho4 (((below_drewN hO3.out.2 (nq + 1)).alloc (w := w3.drewN (nq + 1)) hO3.out.2.size _).trans hb4)); clear ho4 hg4 hb4 hat4))
              all_goals
                go_wp2_with fail
                have LEN := hO4.out.1.len
                go_roundw
                case rel => first | exact ⟨k + 1, o ++ [(a0, a1)], by omega, by go_num, LEN, by simp; omega, MM, HS, hO4⟩ | ((repeat apply Exists.intro); exact ⟨⟨k + 1, o ++ [(a0, a1)], by omega, by go_num, LEN, by simp; omega, MM, HS, hO4⟩, rfl⟩)
                case measure => simp [intOf]; omega
    · have hke : k + 1 = r.length := by omega
      have hCh2 := hCh.out
      rw [show k = r.length - 1 by omega] at hCh2
      obtain ⟨d1, d2⟩ := ch_done (fun x hx => (HFit.out x ((HM.out x).1 hx)).2) (first_zero HU.out (fun x hx => (HFit.out x ((HM.out x).1 hx)).2) hr0) hCh2 (HCo.out r HU.out (fun x hx => (HFit.out x ((HM.out x).1 hx)).2) (ends_of HM.out)) (HLa.out r (ends_of HM.out))
      have hd1 := Lib.hid d1
      have hd2 := Lib.hid d2
      have hfit : Hid (∀ y ∈ o, I64 y.1 ∧ I64 y.2) := Lib.hid (fun y hy => ⟨(HFit.out _ ((HM.out _).1 (hY.out y hy).1)).1, (HFit.out _ ((HM.out _).1 (hY.out y hy).2)).1⟩)
      have hge : decide ((k : Int) + 1 < (r.length : Int)) = false := decide_eq_false (by omega)
      clear d1 d2 hCh2
      go_wp2_with fail
      go_ret
      exact ⟨_, o, rfl, hO.out.1.sps, hd1.out, hd2.out, by omega, hfit.out, HB1.out.trans (hO.out.2.mono HB1.out.size)⟩
end Go.Proofs.Ythpenogkejoljaa.Sp
