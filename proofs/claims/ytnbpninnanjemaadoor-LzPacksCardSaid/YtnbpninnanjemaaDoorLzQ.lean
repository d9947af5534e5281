/-
  PROVED HERE: the contract of lz.longest. Conditions: as each theorem states.
-/
import Derived.Test.YtnbpninnanjemaaDoorLzN
namespace Go.Proofs.YtnbpninnanjemaaDoor.Lz
open Go.RowKit Go.WideMaps Go.Maps Go.ChangeShapes
theorem keyed : Keyed Tryd.prog 9 := string_keyed Tryd.underlying9
theorem zeroInts (w : World) : (zeroValue 45).run Tryd.prog w = .ok (.slice none 0 0) w := by kernel_rfl
theorem lits_inj {H : Type} {q : IntKind} : ∀ {a b : List Int}, lits (H := H) q a = lits q b → a = b
  | [], [], _ => rfl
  | [], _ :: _, h => by simp [lits] at h
  | _ :: _, [], h => by simp [lits] at h
  | x :: a, y :: b, h => by
    simp only [lits, List.map_cons, List.cons.injEq, DataW.lit.injEq, Lit.int.injEq, true_and] at h
    rw [h.1, lits_inj h.2]
theorem own_of_ints {w : World} {B E : Nat} {v : Value} {zs : List Int} (h : w.ownsInts B E .i64 v zs) : Own w B E v (i64s zs) := by
  unfold Own
  rw [i64s_len]
  exact h.1
/-- A row of places, in memory. -/
def Row (w : World) (a : Option Addr) (l : List Nat) : Prop := ∀ j (h : j < l.length), ∃ g, a = some ⟨g, 0, none⟩ ∧ w.cell? ⟨g, j, none⟩ = some (.int .i64 ((l[j] : Nat) : Int))
theorem row_of {w : World} {B E n : Nat} {s : ByteArray} {at_ : Nat} {v : Value} {zs : List Int} (ho : w.ownsInts B E .i64 v zs) (hz : zs = posI s n at_) : ∃ a c, v = .slice a (pos s n at_).length c ∧ Row w a (pos s n at_) := by
  have h := own_of_ints ho
  have hl : (i64s zs).length = (pos s n at_).length := by rw [i64s_len, hz]; unfold posI; rw [List.length_map]
  obtain ⟨a, c, e⟩ := h.len
  rw [hl] at e
  subst e
  refine ⟨a, c, rfl, fun j hj => ?_⟩
  obtain ⟨g, e1, e2⟩ := h.at_ j (by omega)
  refine ⟨g, e1, ?_⟩
  rw [e2]
  have : (i64s zs)[j]'(by omega) = .int .i64 (((pos s n at_)[j] : Nat) : Int) := by
    subst hz
    simp [i64s, posI]
  rw [this]
theorem zs_of {w : World} {B n : Nat} {s : ByteArray} {at_ : Nat} {v : Value} {zs : List Int} (h : at_ + 3 ≤ s.size) (hat : (G (H := Unit) s n).atKey (.string (key s at_)) .nil = rowDatum .i64 v zs) (ho : w.ownsInts B 3 .i64 v zs) : zs = posI s n at_ := by
  rw [G_at s at_ h n] at hat
  rcases ho.datum (H := Unit) with ⟨h1, rfl⟩ | h1
  · rw [h1] at hat
    split at hat
    · rename_i h2; unfold posI; rw [h2]; rfl
    · cases hat
  · rw [h1] at hat
    split at hat
    · cases hat
    · injection hat with hat
      exact (lits_inj hat).symm
def LgP (s : ByteArray) (at_ : Nat) (w : World) (e : Ending) (w' : World) : Prop := e = .returned (.tuple #[.int .i64 ((R s at_).2 : Nat), .int .i64 ((R s at_).1 : Nat)]) ∧ ∃ d, w' = w.drewN d
set_option maxRecDepth 100000 in
theorem longest_none (s : ByteArray) (at_ : Nat) (hs : s.size ≤ 1500) (hat : at_ < s.size) (h3 : s.size < at_ + 3) (w : World) (v : Option Nat) :
    Calls Tryd.prog 17 #[.string s, .int .i64 (at_ : Int), .map v] w (LgP s at_ w) := by
  have hR := Lib.hid (R_none h3)
  have d : (s.size : Int) < (at_ : Int) + 3 := by omega
  go_enter Tryd.func17, Tryd.ntmps17
  go_wp2_with fail
  go_ret2
  unfold LgP
  rw [hR.out]
  exact ⟨rfl, 0, rfl⟩
set_option maxRecDepth 100000 in
set_option maxHeartbeats 4000000 in
theorem longest_some (s : ByteArray) (at_ : Nat) (hs : s.size ≤ 1500) (hat : at_ + 3 ≤ s.size) (H k : Nat) (hk : k ≤ 100000) (w : World) (hG : Gs H k at_ s w) :
    Calls Tryd.prog 17 #[.string s, .int .i64 (at_ : Int), .map (some H)] w (LgP s at_ w) := by
  have hkey := keyOf_string_mk (P := Tryd.prog) Tryd.underlying9 (s := s.extract at_ (at_ + 3)) (by rw [ByteArray.size_extract]; unfold maxLen; omega)
  have hGu := hG
  unfold Gs at hGu
  have a0 : (0 : Int) ≤ (at_ : Int) := by omega
  have a3 : (at_ : Int) + 3 ≤ (s.size : Int) := by omega
  have HA := Lib.hid hat
  have hPL : (pos s at_ at_).length ≤ at_ := by
    unfold pos
    exact Nat.le_trans (List.length_filter_le _ _) (by rw [List.length_range]; exact Nat.le_refl _)
  go_enter Tryd.func17, Tryd.ntmps17
  go_wp2_with (at_lookup; refine wpList_lookup_groups _ rfl _ _ 40 rfl 9 45 3 .i64 keyed Tryd.underlying40 (zeroInts _) (H + 3) H k _ rfl hGu (by unfold maxLen; omega) _ _ rfl hkey ?_; intro v zs hz hoi hzl hback; obtain ⟨pa, pc, hv, hrow⟩ := row_of hoi (zs_of HA.out hz hoi); clear hz hback hzl hoi hkey hGu hG; subst hv; have HC := Lib.hid hrow; clear hrow)
  have HS := Lib.hid (sr_start hat)
  have hLat0 := hPL
  clear hPL
  obtain ⟨L, hL⟩ : ∃ L, L = (pos s at_ at_).length := ⟨_, rfl⟩
  rw [← hL] at HS ⊢
  have HL := Lib.hid hL
  clear hL
  have hLat : L ≤ at_ := by rw [HL.out]; exact hLat0
  clear hLat0
  go_loopw [6, 7, 9] (fun bk nn kk wr => ∃ (j : Nat) (i : Int) (n b : Nat), kk = .int .i64 i ∧ nn = .int .i64 (n : Int) ∧ bk = .int .i64 (b : Int) ∧ i + 1 = (j : Int) ∧ j ≤ L ∧ n ≤ 130 ∧ Hid (Sr s at_ j (n, b)) ∧ Hid (∀ h : j < (pos s at_ at_).length, at_ - (pos s at_ at_)[j] ≤ 1023) ∧ Hid (∃ d, wr = w.drewN d)) (fun _ _ kk _ => (intOf kk + 1).toNat)
  case atStart => exact ⟨L, _, 0, 0, rfl, rfl, rfl, by omega, Nat.le_refl _, by omega, HS, Lib.hid (fun h => by have := HL.out; omega), Lib.hid ⟨0, rfl⟩⟩
  case round =>
    obtain ⟨j, i, n, b, rfl, rfl, rfl, hij, hjL, hn130, hS, hN, hW⟩ := hrel
    clear HS
    rcases Nat.eq_zero_or_pos j with hj0 | hj0
    · subst hj0
      obtain rfl : i = -1 := by omega
      have hR := Lib.hid (sr_end hS.out hN.out)
      clear hij hS
      go_wp2_with fail
      go_ret2
      unfold LgP
      rw [hR.out]
      exact ⟨rfl, hW.out⟩
    · obtain ⟨t, rfl⟩ : ∃ t : Nat, i = (t : Int) := ⟨(j - 1), by omega⟩
      obtain rfl : j = t + 1 := by omega
      have htL : t < L := by omega
      have htP : t < (pos s at_ at_).length := by have := HL.out; omega
      obtain ⟨g, rfl, hcell0⟩ := HC.out t htP
      have hcell : wr.cell? ⟨g, t, none⟩ = some (.int .i64 (((pos s at_ at_)[t] : Nat) : Int)) := by obtain ⟨d, hd⟩ := hW.out; rw [hd]; exact hcell0
      have hST := Lib.hid (sr_step HA.out hS.out htP)
      have hFar := Lib.hid (fun (hf : 1023 < at_ - (pos s at_ at_)[t]) => sr_far hS.out htP hf hN.out)
      have hq := pos_lt (List.getElem_mem htP)
      have hq3 : (pos s at_ at_)[t] + 3 ≤ s.size ∧ tri s (pos s at_ at_)[t] at_ := by
        have := (List.mem_filter.1 (List.getElem_mem htP)).2
        rwa [decide_eq_true_eq] at this
      have hN0 := Lib.hid (fun (hh : at_ - (pos s at_ at_)[t] ≤ 1023) => (show ∀ h : t < (pos s at_ at_).length, at_ - (pos s at_ at_)[t] ≤ 1023 from fun _ => hh))
      obtain ⟨hq3a, hq3b⟩ := hq3
      have HT := Lib.hid hq3b
      have t0 : (0 : Int) ≤ (t : Int) := by omega
      have t1 : (t : Int) < (L : Int) := by omega
      clear hcell0 hq3b hij hS hN hj0
      generalize hqe : (pos s at_ at_)[t] = q at hcell hST hFar hq hq3a HT hN0
      have HQ := Lib.hid hqe
      clear hqe
      by_cases hfar : 1023 < at_ - q
      · have hf2 : (1023 : Int) < (at_ : Int) - (q : Int) := by omega
        have hR := Lib.hid (hFar.out hfar)
        clear hST hFar
        go_wp2_with fail
        go_ret2
        unfold LgP
        rw [hR.out]
        exact ⟨rfl, hW.out⟩
      · have hf2 : (at_ : Int) - (q : Int) ≤ 1023 := by omega
        have hN2 : Hid (∀ h : t < (pos s at_ at_).length, at_ - (pos s at_ at_)[t] ≤ 1023) := Lib.hid (fun h => by rw [HQ.out]; omega)
        have hb2 : at_ - q ≤ 1023 := by omega
        clear hFar hfar hN0
        obtain ⟨wo, rfl⟩ : ∃ wo : World, wo = wr := ⟨_, rfl⟩
        go_wp2_with fail
        go_loopw [10] (fun mm wr => ∃ m : Nat, 3 ≤ m ∧ m ≤ 130 ∧ at_ + m ≤ s.size ∧ mm = .int .i64 (m : Int) ∧ Hid (∀ j, j < m → ub s (q + j) = ub s (at_ + j)) ∧ Hid (∃ d, wr = wo.drewN d)) (fun mm _ => 130 - (intOf mm).toNat)
        case atStart => exact ⟨3, Nat.le_refl _, by omega, HA.out, rfl, Lib.hid (fun j hj => by
          rcases (show j = 0 ∨ j = 1 ∨ j = 2 by omega) with rfl | rfl | rfl
          · exact HT.out.1
          · exact HT.out.2.1
          · exact HT.out.2.2), Lib.hid ⟨0, rfl⟩⟩
        case round =>
          obtain ⟨m, hm3, hmx, hms, rfl, hE, hW3⟩ := hrel
          have hcell3 : wr.cell? ⟨g, t, none⟩ = some (.int .i64 (q : Int)) := by obtain ⟨d, hd⟩ := hW3.out; rw [hd]; exact hcell
          have v1 : IntKind.i64.wrap ((at_ : Int) + (m : Int)) = (at_ : Int) + (m : Int) := IntWalk.i64_in _ (by omega)
          have v2 : IntKind.i64.wrap ((q : Int) + (m : Int)) = (q : Int) + (m : Int) := IntWalk.i64_in _ (by omega)
          have v3 : ((at_ : Int) + (m : Int)).toNat = at_ + m := by omega
          have v4 : ((q : Int) + (m : Int)).toNat = q + m := by omega
          have v5 : (0 : Int) ≤ (at_ : Int) + (m : Int) := by omega
          have v6 : (0 : Int) ≤ (q : Int) + (m : Int) := by omega
          by_cases hgo : m < 130 ∧ at_ + m < s.size ∧ ub s (q + m) = ub s (at_ + m)
          · obtain ⟨g1, g2, g3⟩ := hgo
            have b2 : q + m < s.size := by omega
            obtain ⟨x, hx⟩ : ∃ x : Nat, (s[q + m]'b2).toNat = x := ⟨_, rfl⟩
            have hy : (s[at_ + m]'g2).toNat = x := by rw [← hx, ub_eq s _ g2, ub_eq s _ b2, g3]
            have d1 : decide ((m : Int) < 130) = true := decide_eq_true (by omega)
            have d2 : (at_ : Int) + (m : Int) < (s.size : Int) := by omega
            have d3 : (q : Int) + (m : Int) < (s.size : Int) := by omega
            have d4 : ((x : Int) == (x : Int)) = true := by simp
            have hE2 : Hid (∀ j, j < m + 1 → ub s (q + j) = ub s (at_ + j)) := Lib.hid (fun j hj => by
              rcases Nat.lt_or_ge j m with c | c
              · exact hE.out j c
              · obtain rfl : j = m := by omega
                exact g3)
            clear hE g3
            go_upto_region 8 with fail
            go_quiet (fail)
            all_goals
              clear v1 v2 v3 v4 v5 v6 hx hy d4
              have hW4 : Hid (∃ d, wr.drewN nq = wo.drewN d) := Lib.hid (by obtain ⟨d, hd⟩ := hW3.out; exact ⟨_, by rw [hd, World.drewN_drewN]⟩)
              go_wp2_with fail
              go_roundw
              case rel => first | exact ⟨m + 1, by omega, by omega, by omega, by go_num, hE2, hW4⟩ | ((repeat apply Exists.intro); exact ⟨⟨m + 1, by omega, by omega, by omega, by go_num, hE2, hW4⟩, rfl⟩)
              case measure => first | (simp [intOf]; done) | (simp [intOf]; omega)
          · have HM : Hid (min (al s q at_) 130 = m) := Lib.hid (al_min hms hE.out hmx (fun h1 h2 h3 => hgo ⟨h1, h2, h3⟩))
            have hex : 130 ≤ m ∨ (m < 130 ∧ s.size ≤ at_ + m) ∨ (m < 130 ∧ at_ + m < s.size ∧ ub s (q + m) ≠ ub s (at_ + m)) := by
              rcases Nat.lt_or_ge m 130 with c1 | c1
              · rcases Nat.lt_or_ge (at_ + m) s.size with c2 | c2
                · exact .inr (.inr ⟨c1, c2, fun c3 => hgo ⟨c1, c2, c3⟩⟩)
                · exact .inr (.inl ⟨c1, c2⟩)
              · exact .inl c1
            clear hgo hE
            rcases hex with g1 | ⟨g1, g2⟩ | ⟨g1, g2, g3⟩
            · have d1 : decide ((m : Int) < 130) = false := decide_eq_false (by omega)
              go_upto_region 8 with fail
              go_quiet (fail)
              all_goals
                clear v1 v2 v3 v4 v5 v6
                have hW2 : Hid (∃ d, wr.drewN nq = w.drewN d) := Lib.hid (by obtain ⟨d, hd⟩ := hW3.out; obtain ⟨d2, hd2⟩ := hW.out; exact ⟨_, by rw [hd, hd2, World.drewN_drewN, World.drewN_drewN]⟩)
                have hm130 : m ≤ 130 := by omega
                by_cases hnm : n < m
                · have hnI : (n : Int) < (m : Int) := by omega
                  have hS2 : Hid (Sr s at_ t (m, at_ - q)) := Lib.hid (by have h := hST.out; rw [HM.out, if_pos (by first | omega | (simp only; omega))] at h; exact h)
                  have ab : (at_ : Int) - (q : Int) = ((at_ - q : Nat) : Int) := by omega
                  clear HM hST hnm
                  go_wp2_with fail
                  go_roundw
                  case rel => first | exact ⟨t, _, m, at_ - q, by go_num, by go_num, by go_num, by omega, by omega, by omega, hS2, hN2, hW2⟩ | ((repeat apply Exists.intro); exact ⟨⟨t, _, m, at_ - q, by go_num, by go_num, by go_num, by omega, by omega, by omega, hS2, hN2, hW2⟩, rfl⟩)
                  case measure => first | (simp [intOf]; done) | (simp [intOf]; omega)
                · have hnI : (m : Int) ≤ (n : Int) := by omega
                  have hS2 : Hid (Sr s at_ t (n, b)) := Lib.hid (by have h := hST.out; rw [HM.out, if_neg (by first | omega | (simp only; omega))] at h; exact h)
                  clear HM hST hnm
                  go_wp2_with fail
                  go_roundw
                  case rel => first | exact ⟨t, _, n, b, by first | rfl | go_num, by first | rfl | go_num, by go_num, by omega, by omega, by omega, hS2, hN2, hW2⟩ | ((repeat apply Exists.intro); exact ⟨⟨t, _, n, b, by first | rfl | go_num, by first | rfl | go_num, by go_num, by omega, by omega, by omega, hS2, hN2, hW2⟩, rfl⟩)
                  case measure => first | (simp [intOf]; done) | (simp [intOf]; omega)
            · have d1 : decide ((m : Int) < 130) = true := decide_eq_true (by omega)
              have d2 : decide ((at_ : Int) + (m : Int) < (s.size : Int)) = false := decide_eq_false (by omega)
              have d3 : decide (at_ + m < s.size) = false := decide_eq_false (by omega)
              go_upto_region 8 with fail
              go_quiet (fail)
              all_goals
                clear v1 v2 v3 v4 v5 v6
                have hW2 : Hid (∃ d, wr.drewN nq = w.drewN d) := Lib.hid (by obtain ⟨d, hd⟩ := hW3.out; obtain ⟨d2, hd2⟩ := hW.out; exact ⟨_, by rw [hd, hd2, World.drewN_drewN, World.drewN_drewN]⟩)
                have hm130 : m ≤ 130 := by omega
                by_cases hnm : n < m
                · have hnI : (n : Int) < (m : Int) := by omega
                  have hS2 : Hid (Sr s at_ t (m, at_ - q)) := Lib.hid (by have h := hST.out; rw [HM.out, if_pos (by first | omega | (simp only; omega))] at h; exact h)
                  have ab : (at_ : Int) - (q : Int) = ((at_ - q : Nat) : Int) := by omega
                  clear HM hST hnm
                  go_wp2_with fail
                  go_roundw
                  case rel => first | exact ⟨t, _, m, at_ - q, by go_num, by go_num, by go_num, by omega, by omega, by omega, hS2, hN2, hW2⟩ | ((repeat apply Exists.intro); exact ⟨⟨t, _, m, at_ - q, by go_num, by go_num, by go_num, by omega, by omega, by omega, hS2, hN2, hW2⟩, rfl⟩)
                  case measure => first | (simp [intOf]; done) | (simp [intOf]; omega)
                · have hnI : (m : Int) ≤ (n : Int) := by omega
                  have hS2 : Hid (Sr s at_ t (n, b)) := Lib.hid (by have h := hST.out; rw [HM.out, if_neg (by first | omega | (simp only; omega))] at h; exact h)
                  clear HM hST hnm
                  go_wp2_with fail
                  go_roundw
                  case rel => first | exact ⟨t, _, n, b, by first | rfl | go_num, by first | rfl | go_num, by go_num, by omega, by omega, by omega, hS2, hN2, hW2⟩ | ((repeat apply Exists.intro); exact ⟨⟨t, _, n, b, by first | rfl | go_num, by first | rfl | go_num, by go_num, by omega, by omega, by omega, hS2, hN2, hW2⟩, rfl⟩)
                  case measure => first | (simp [intOf]; done) | (simp [intOf]; omega)
            · have b2 : q + m < s.size := by omega
              obtain ⟨x, hx⟩ : ∃ x : Nat, (s[q + m]'b2).toNat = x := ⟨_, rfl⟩
              obtain ⟨y, hy⟩ : ∃ y : Nat, (s[at_ + m]'g2).toNat = y := ⟨_, rfl⟩
              have hxy : x ≠ y := fun e => g3 (by rw [← ub_eq s _ g2, ← ub_eq s _ b2]; exact UInt8.toNat_inj.1 (by omega))
              have d1 : decide ((m : Int) < 130) = true := decide_eq_true (by omega)
              have d2 : (at_ : Int) + (m : Int) < (s.size : Int) := by omega
              have d3 : (q : Int) + (m : Int) < (s.size : Int) := by omega
              have d4 : ((x : Int) == (y : Int)) = false := by rw [beq_eq_false_iff_ne]; omega
              clear hxy g3
              go_upto_region 8 with fail
              go_quiet (fail)
              all_goals
                clear v1 v2 v3 v4 v5 v6 hx hy d4
                have hW2 : Hid (∃ d, wr.drewN nq = w.drewN d) := Lib.hid (by obtain ⟨d, hd⟩ := hW3.out; obtain ⟨d2, hd2⟩ := hW.out; exact ⟨_, by rw [hd, hd2, World.drewN_drewN, World.drewN_drewN]⟩)
                have hm130 : m ≤ 130 := by omega
                by_cases hnm : n < m
                · have hnI : (n : Int) < (m : Int) := by omega
                  have hS2 : Hid (Sr s at_ t (m, at_ - q)) := Lib.hid (by have h := hST.out; rw [HM.out, if_pos (by first | omega | (simp only; omega))] at h; exact h)
                  have ab : (at_ : Int) - (q : Int) = ((at_ - q : Nat) : Int) := by omega
                  clear HM hST hnm
                  go_wp2_with fail
                  go_roundw
                  case rel => first | exact ⟨t, _, m, at_ - q, by go_num, by go_num, by go_num, by omega, by omega, by omega, hS2, hN2, hW2⟩ | ((repeat apply Exists.intro); exact ⟨⟨t, _, m, at_ - q, by go_num, by go_num, by go_num, by omega, by omega, by omega, hS2, hN2, hW2⟩, rfl⟩)
                  case measure => first | (simp [intOf]; done) | (simp [intOf]; omega)
                · have hnI : (m : Int) ≤ (n : Int) := by omega
                  have hS2 : Hid (Sr s at_ t (n, b)) := Lib.hid (by have h := hST.out; rw [HM.out, if_neg (by first | omega | (simp only; omega))] at h; exact h)
                  clear HM hST hnm
                  go_wp2_with fail
                  go_roundw
                  case rel => first | exact ⟨t, _, n, b, by first | rfl | go_num, by first | rfl | go_num, by go_num, by omega, by omega, by omega, hS2, hN2, hW2⟩ | ((repeat apply Exists.intro); exact ⟨⟨t, _, n, b, by first | rfl | go_num, by first | rfl | go_num, by go_num, by omega, by omega, by omega, hS2, hN2, hW2⟩, rfl⟩)
                  case measure => first | (simp [intOf]; done) | (simp [intOf]; omega)
end Go.Proofs.YtnbpninnanjemaaDoor.Lz
