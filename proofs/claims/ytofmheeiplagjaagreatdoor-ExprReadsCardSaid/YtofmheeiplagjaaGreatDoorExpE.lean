/-
  PROVED HERE: the contract of the program's expr.level and expr.Read. Conditions: as each theorem states.
-/
import Derived.Test.YtofmheeiplagjaaGreatDoorExpD
namespace Go.Proofs.YtofmheeiplagjaaGreatDoor.Tm
open Go.RowKit Go.Proofs.YtofmheeiplagjaaGreatDoor.Lex Go.Proofs.YtofmheeiplagjaaGreatDoor.Dig
theorem mem_lvs {k : Nat} (hk : k < 3) (s : ByteArray) : s ∈ lvs k ↔ hold s = k + 1 := by
  have hc : k = 0 ∨ k = 1 ∨ k = 2 := by omega
  unfold hold
  rcases hc with rfl | rfl | rfl
  all_goals
    simp only [lvs, List.mem_cons, List.not_mem_nil, or_false]
    constructor
    · intro h
      rcases h with rfl | rfl | rfl | rfl | rfl <;> first | rfl | (rename_i h; rcases h with rfl | rfl <;> rfl) | decide
    · intro h
      (repeat' split at h) <;> first | assumption | exact absurd h (by decide)
theorem lvs_len (k : Nat) : (lvs k).length ≤ 4 := by
  rcases k with _ | _ | _ | k <;> simp [lvs]
theorem lvs_pos {k j : Nat} (h : j < (lvs k).length) : 0 < (lvs k)[j].size := by
  have : ∀ s ∈ lvs k, 0 < s.size := by
    intro s hs
    rcases k with _ | _ | _ | k
    all_goals
      simp only [lvs, List.mem_cons, List.not_mem_nil, or_false] at hs
    · rcases hs with rfl | rfl | rfl | rfl <;> decide
    · rcases hs with rfl | rfl | rfl <;> decide
    · rcases hs with rfl | rfl <;> decide
  exact this _ (List.getElem_mem h)
def LvC (n k : Nat) : Prop := ∀ (B G E : Nat) (lv : Value) (σ : Ey) (W : World) (deep : Nat), RS G E lv σ W → LH B W → B ≤ G → AllT σ.l → E ≤ 4000 → deep ≤ 8 → σ.l.length < n →
  Calls Tryz.prog 56 #[.pointer (some ⟨G, 0, none⟩), .int .i64 (k : Nat), .int .i64 (deep : Nat)] W (LvP G E (exprF E n (k + 1) deep σ) W)
def OpR (k G E : Nat) (τ : Ey) (W : World) (i o : Value) (wr : World) : Prop := ∃ (j : Nat) (op : ByteArray) (lv : Value), i = .int .i64 j ∧ o = .string op ∧ j ≤ (lvs k).length ∧ Hid (W.grownBy wr (some G)) ∧ ((op = ⟨#[]⟩ ∧ Hid (RS G E lv τ wr) ∧ Hid (∀ s ∈ (lvs k).take j, txt τ ≠ s)) ∨ (Hid (op = txt τ) ∧ 0 < op.size ∧ Hid (txt τ ∈ lvs k) ∧ Hid (RS G E lv (pass E τ) wr)))
def LvR (G E n deep k : Nat) (R : Pr) (W : World) (v : Value) (wr : World) : Prop := ∃ (m : Nat) (x : Ex) (τ : Ey) (lv : Value) (p : Option Addr), v = .pointer p ∧ Hid (exactF E (fun τ => exprF E n (k + 1 + 1) deep τ) (k + 1) m (some x) τ = R) ∧ Hid (τ.l.length ≤ m) ∧ Hid (RS G E lv τ wr) ∧ Hid (W.grownBy wr (some G)) ∧ Hid (ExF W.heap.size wr x (.pointer p)) ∧ Hid (AllT τ.l) ∧ Hid (τ.l.length < n)
theorem lenAt_rs {G E : Nat} {lv : Value} {σ : Ey} {w : World} (h : RS G E lv σ w) : lenAt G w = σ.l.length := by
  obtain ⟨a, c, e, _⟩ := h.cap
  unfold lenAt
  rw [h.c0, e]
theorem lvR_stop {E n deep k m : Nat} {R : Pr} {x : Option Ex} {τ : Ey} (h : exactF E (fun τ => exprF E n (k + 1 + 1) deep τ) (k + 1) m x τ = R) (hn : hold (txt τ) ≠ k + 1) : R = (x, τ) := by
  rw [← h]
  exact exactF_stop _ _ (fun q => hn q.2)
theorem lvR_step {E n deep k m : Nat} {R S : Pr} {x : Ex} {τ : Ey} (h : exactF E (fun τ => exprF E n (k + 1 + 1) deep τ) (k + 1) m (some x) τ = R) (hc : τ.c = 0) (hm : τ.l.length ≤ m) (hn : hold (txt τ) = k + 1) (hS : exprF E n (k + 1 + 1) deep (pass E τ) = S) :
    ∃ m', exactF E (fun τ => exprF E n (k + 1 + 1) deep τ) (k + 1) m' (binO (pos E τ) (txt τ) (some x) S.1) S.2 = R ∧ S.2.l.length ≤ m' ∧ S.2.l.length < τ.l.length ∧ (AllT τ.l → AllT S.2.l) := by
  have hne : txt τ ≠ emp := hold_txt (by omega)
  have hlt := pass_lt (E := E) hne
  have h0 := expr_0 E n (k + 1 + 1) deep (pass E τ)
  rw [hS] at h0
  have hl := h0.2.1
  cases m with
  | zero => omega
  | succ m =>
    unfold exactF at h
    rw [if_pos ⟨hc, hn⟩] at h
    simp only [hS] at h
    exact ⟨m, h, by omega, by omega, fun hA => h0.1 (pass_all hA)⟩
section
variable {n B G E : Nat} {lv : Value} {σ : Ey} {W : World} {deep k : Nat}
set_option maxRecDepth 100000 in
set_option maxHeartbeats 4000000 in
theorem level_top (IH : RdC n) : LvC (n + 1) 3 := by
  intro B G E lv σ W deep h hL hBG hA hE hd hn
  have C := Lib.hid (expOne_any IH h hL hBG hA hE hd hn)
  clear h hL hBG hA hE hd hn IH
  obtain ⟨R, hR⟩ : ∃ R, exprF E (n + 1) 4 deep σ = R := ⟨_, rfl⟩
  rw [hR] at C
  rw [hR]
  go_enter Tryz.func56, Tryz.ntmps56
  go_wp2_with fail
  refine (C.out).mono ?_; rintro e w1 ⟨hg, ⟨v, x, lv1, rfl, hx, hp, hxf, p, rfl⟩ | ⟨hc, hth⟩⟩
  · have H := Lib.hid (show LvP G E R W (.returned (.pointer p)) w1 from ⟨hg, .inl ⟨_, x, lv1, rfl, hx, hp, hxf, p, rfl⟩⟩)
    clear hg hx hp hxf
    go_wp2_with fail
    go_ret
    exact H.out
  · have T9 := Lib.hid hth
    have C9 := Lib.hid hc
    have G9 := Lib.hid hg
    obtain ⟨b9, rfl, q0, q1⟩ := hth
    clear hc hg q0 q1
    go_wp2_with fail
    exact ⟨rfl, G9.out, .inr ⟨C9.out, T9.out⟩⟩
set_option maxRecDepth 100000 in
set_option maxHeartbeats 8000000 in
theorem level_step (hk : k < 3) (IH : LvC n (k + 1)) : LvC n k := by
  intro B G E lv σ W deep h hL hBG hA hE hd hn
  have C := Lib.hid (IH B G E lv σ W deep h hL hBG hA hE hd hn)
  have HI := Lib.hid (fun (W : World) (lv : Value) (τ : Ey) (h1 : RS G E lv τ W) (h2 : LH B W) (h3 : AllT τ.l) (h4 : τ.l.length < n) => IH B G E lv τ W deep h1 h2 hBG h3 hE hd h4)
  have HR := Lib.hid (exprF_level (E := E) (n := n) (k := k + 1) (deep := deep) (σ := σ) (Nat.succ_pos k) hn σ.l.length (Nat.le_refl _))
  obtain ⟨R, hR⟩ : ∃ R, exprF E n (k + 1) deep σ = R := ⟨_, rfl⟩
  rw [hR] at HR
  rw [hR]
  obtain ⟨S, hS⟩ : ∃ S, exprF E n (k + 1 + 1) deep σ = S := ⟨_, rfl⟩
  have H0 := expr_0 E n (k + 1 + 1) deep σ
  rw [hS] at H0 HR C
  have hGs := h.lt
  have hBs : B ≤ W.heap.size := by omega
  have HL := Lib.hid hL
  have HA := Lib.hid (H0.1 hA)
  have HN := Lib.hid (Nat.lt_of_le_of_lt H0.2.1 hn)
  have HSl := Lib.hid H0.2.1
  have n3 : ((k : Int) == 3) = false := by rw [beq_eq_false_iff_ne]; omega
  obtain ⟨k1, hk1⟩ : ∃ k1, k + 1 = k1 := ⟨_, rfl⟩
  have hk2 : (k : Int) + 1 = (k1 : Int) := by omega
  have HK1 := Lib.hid hk1
  rw [hk1] at C HI
  clear h hL hA hE hd hn IH hR hS H0 hk1
  go_enter Tryz.func56, Tryz.ntmps56
  go_wp2_with fail
  refine (C.out).mono ?_; rintro e w1 ⟨hg, ⟨v, x, lv1, rfl, hx, hp, hxf, p, rfl⟩ | ⟨hc, hth⟩⟩
  · have g1 := Lib.hid hg
    have h1 := Lib.hid hp
    have X1 := Lib.hid hxf
    have HX := Lib.hid hx
    clear hg hp hxf hx C
    go_wp2_with fail
    have HQ := Lib.hid (show exactF E (fun τ => exprF E n (k + 1 + 1) deep τ) (k + 1) σ.l.length (some x) S.2 = R by rw [← HX.out]; exact HR.out.symm)
    go_loopw [6, 7] (fun _ v wr => LvR G E n deep k R W v wr) (fun _ _ w => lenAt G w)
    case atStart => exact ⟨_, x, S.2, lv1, p, rfl, HQ, HSl, h1, g1, X1, HA, HN⟩
    case round =>
      clear HQ HSl h1 g1 X1 HA HN HX HR
      obtain ⟨m, x, τ, lv, p, rfl, hF, hm, hS, hg, hx, hA, hn⟩ := hrel
      have hBw := hg.out.size
      go_wp2_with fail
      refine (At_any hS.out).mono ?_; rintro e w2 ⟨rfl, hb⟩
      have h2 := Lib.hid (hS.out.below hb)
      have hgb := Lib.hid (gb_below (some G) hb)
      have g2 := Lib.hid (gb_trans hg.out hgb.out)
      have x2 := Lib.hid (ExF.grown hx.out hgb.out hGs)
      have L2 := Lib.hid (HL.out.grown hBG hBs g2.out)
      obtain ⟨b, o, c, q0, hbB, q1⟩ := L2.out.lv k hk
      have Q1 := Lib.hid q1
      have hbl : b < w2.heap.size := by have := g2.out.size; omega
      have i1 : (0 : Int) ≤ (k : Int) := by omega
      have i2 : (k : Int) < 3 := by omega
      clear hb hg hx q1
      go_wp2_with fail
      go_loopw [8, 28] (fun o i wr => OpR k G E τ w2 i o wr) (fun _ i _ => (lvs k).length - (intOf i).toNat)
      case atStart => exact ⟨0, ⟨#[]⟩, lv, rfl, rfl, Nat.zero_le _, Lib.hid (gb_refl _ _), .inl ⟨rfl, h2, Lib.hid (by simp)⟩⟩
      case round =>
        clear h2
        obtain ⟨j, op, lvj, rfl, rfl, hj, hgj, hcase⟩ := hrel
        by_cases hlt : j < (lvs k).length
        · have cell : wr.cell? ⟨b, o + j, none⟩ = some (.string (lvs k)[j]) := (World.cell?_of_block (a := ⟨b, o + j, none⟩) (hgj.out.block b hbl (fun e => by injection e; omega))).trans (Q1.out j hlt)
          have hpos := lvs_pos hlt
          have hl4 := lvs_len k
          have hmem : (lvs k)[j] ∈ lvs k := List.getElem_mem hlt
          have htk : (lvs k).take (j + 1) = (lvs k).take j ++ [(lvs k)[j]] := List.take_succ_eq_append_getElem hlt
          have i3 : (0 : Int) ≤ (j : Int) := by omega
          have i4 : (j : Int) < ((lvs k).length : Int) := by omega
          generalize (lvs k)[j] = s at *
          rcases hcase with ⟨rfl, hR, hno⟩ | ⟨hop, hp0, hme, hR⟩
          · by_cases ht : txt τ = s
            · have TM := Lib.hid (Take_any hR.out s hpos)
              rw [decide_eq_true ht, show take E τ s = pass E τ from if_pos ht] at TM
              have M := Lib.hid hmem
              have T := Lib.hid ht
              clear hno hmem htk ht hR
              go_wp2_with fail
              refine (TM.out).mono ?_; rintro e w3 ⟨rfl, ⟨lv3, hp⟩, hg⟩
              have h3 := Lib.hid hp
              have g3 := Lib.hid (gb_trans hgj.out hg)
              clear hp hg TM
              go_wp2_with fail
              go_roundw
              case rel => exact ⟨j + 1, s, lv3, by go_num, rfl, hlt, g3, .inr ⟨Lib.hid T.out.symm, hpos, Lib.hid (T.out ▸ M.out), h3⟩⟩
              case measure => first | (simp [intOf]; done) | (simp [intOf]; omega)
            · have TM := Lib.hid (Take_no hR.out s hpos ht)
              have N := Lib.hid (show ∀ s' ∈ (lvs k).take (j + 1), txt τ ≠ s' from fun s' hs' => by
                rw [htk, List.mem_append, List.mem_singleton] at hs'
                rcases hs' with h | rfl
                · exact hno.out _ h
                · exact ht)
              clear hno hmem htk ht hR
              go_wp2_with fail
              refine (TM.out).mono ?_; rintro e w3 ⟨rfl, ⟨lv3, hp⟩, hg⟩
              have h3 := Lib.hid hp
              have g3 := Lib.hid (gb_trans hgj.out hg)
              clear hp hg TM
              go_wp2_with fail
              go_roundw
              case rel => exact ⟨j + 1, ⟨#[]⟩, lv3, by go_num, rfl, hlt, g3, .inl ⟨rfl, h3, N⟩⟩
              case measure => first | (simp [intOf]; done) | (simp [intOf]; omega)
          · have e2 : (op.toList == []) = false := by
              have t2 := str_full op hp0
              rw [beq_eq_false_iff_ne]; intro e; rw [e] at t2; cases t2
            clear hmem htk
            go_wp2_with fail
            go_roundw
            case rel => exact ⟨j + 1, op, lvj, by go_num, rfl, hlt, hgj, .inr ⟨hop, hp0, hme, hR⟩⟩
            case measure => first | (simp [intOf]; done) | (simp [intOf]; omega)
        · have i3 : ¬ (j : Int) < ((lvs k).length : Int) := by omega
          have g4 := Lib.hid (gb_trans g2.out hgj.out)
          have x4 := Lib.hid (ExF.grown x2.out hgj.out (by have := g2.out.size; omega))
          rcases hcase with ⟨rfl, hR, hno⟩ | ⟨hop, hp0, hme, hR⟩
          · have hRS := Lib.hid (lvR_stop hF.out (fun e => by
              have := (mem_lvs hk (txt τ)).2 e
              rw [← List.take_of_length_le (show (lvs k).length ≤ j by omega)] at this
              exact hno.out _ this rfl))
            clear hno
            go_wp2_with fail
            go_ret
            refine ⟨g4.out, .inl ⟨_, x, lvj, rfl, ?_, ?_, x4.out, p, rfl⟩⟩
            · rw [hRS.out]
            · rw [hRS.out]; exact hR.out
          · have e2 : (op.toList == []) = false := by
              have t2 := str_full op hp0
              rw [beq_eq_false_iff_ne]; intro e; rw [e] at t2; cases t2
            obtain ⟨S, hS⟩ : ∃ S, exprF E n (k + 1 + 1) deep (pass E τ) = S := ⟨_, rfl⟩
            have hne : txt τ ≠ emp := hold_txt (by rw [(mem_lvs hk _).1 hme.out]; omega)
            obtain ⟨m', hF', hm', hl', hA'⟩ := lvR_step hF.out (by have := hR.out.ok; rw [pass_ok hne] at this; exact this) hm.out ((mem_lvs hk _).1 hme.out) hS
            have CI := Lib.hid (HI.out wr lvj (pass E τ) hR.out (HL.out.grown hBG hBs g4.out) (pass_all hA.out) (Nat.lt_trans (pass_lt hne) hn.out))
            rw [HK1.out] at hS
            rw [hS] at CI
            have F5 := Lib.hid hF'
            have M5 := Lib.hid hm'
            have N5 := Lib.hid (Nat.lt_trans hl' hn.out)
            have ML := Lib.hid hl'
            have A5 := Lib.hid (hA' hA.out)
            clear hF' hm' hl' hA' hS hF hm hne
            go_wp2_with fail
            refine (CI.out).mono ?_; rintro e w5 ⟨hg, ⟨v, y, lv5, rfl, hy, hp, hyf, q, rfl⟩ | ⟨hc, hth⟩⟩
            · have g5 := Lib.hid (gb_trans g4.out hg)
              have h5 := Lib.hid hp
              have y5 := Lib.hid (hyf.low g4.out.size)
              have x5 := Lib.hid (ExF.grown x4.out hg hGs)
              have F6 := Lib.hid (show exactF E (fun τ => exprF E n (k + 1 + 1) deep τ) (k + 1) m' (some (.bin (pos E τ) op x y)) S.2 = R by
                have := F5.out
                rw [hy, ← hop.out] at this
                exact this)
              clear hg hp hyf hy CI
              go_wp2_with fail
              go_roundw
              case rel => exact ⟨m', .bin (pos E τ) op x y, S.2, lv5, _, rfl, F6, M5, Lib.hid (h5.out.below ((Below.refl _ _).alloc (Nat.le_refl _) _)), Lib.hid (gb_trans g5.out (alloc_gb _ _ _)), Lib.hid (exF_bin g5.out.size (pos E τ) op x5.out y5.out), A5, N5⟩
              case measure =>
                rw [lenAt_rs (h5.out.below ((Below.refl _ _).alloc (Nat.le_refl _) _)), lenAt_rs hS.out]
                exact ML.out
            · have T9 := Lib.hid hth
              have C9 := Lib.hid hc
              have G9 := Lib.hid (gb_trans g4.out hg)
              have hRS := Lib.hid (F5.out.symm.trans (exactF_stop _ _ (fun q => hc q.1)))
              obtain ⟨b9, rfl, q0, q1⟩ := hth
              clear hc hg q0 q1 CI
              go_wp2_with fail
              refine ⟨rfl, G9.out, .inr ?_⟩
              rw [hRS.out]
              exact ⟨C9.out, T9.out⟩
  · have T9 := Lib.hid hth
    have C9 := Lib.hid hc
    have G9 := Lib.hid hg
    have hRS := Lib.hid (HR.out.trans (exactF_stop _ _ (fun q => hc q.1)))
    obtain ⟨b9, rfl, q0, q1⟩ := hth
    clear hc hg q0 q1 C
    go_wp2_with fail
    refine ⟨rfl, G9.out, .inr ?_⟩
    rw [hRS.out]
    exact ⟨C9.out, T9.out⟩
set_option maxRecDepth 100000 in
theorem read_step (IH : LvC n 0) : RdC n := by
  intro B G E lv σ W deep h hL hBG hA hE hd hn
  have C := Lib.hid (IH B G E lv σ W deep h hL hBG hA hE hd hn)
  clear h hL hBG hA hE hd hn IH
  rw [Nat.zero_add] at C
  obtain ⟨R, hR⟩ : ∃ R, exprF E n 1 deep σ = R := ⟨_, rfl⟩
  rw [hR] at C
  rw [hR]
  go_enter Tryz.func28, Tryz.ntmps28
  go_wp2_with fail
  refine (C.out).mono ?_; rintro e w1 ⟨hg, ⟨v, x, lv1, rfl, hx, hp, hxf, p, rfl⟩ | ⟨hc, hth⟩⟩
  · have H := Lib.hid (show LvP G E R W (.returned (.pointer p)) w1 from ⟨hg, .inl ⟨_, x, lv1, rfl, hx, hp, hxf, p, rfl⟩⟩)
    clear hg hx hp hxf
    go_wp2_with fail
    go_ret
    exact H.out
  · have T9 := Lib.hid hth
    have C9 := Lib.hid hc
    have G9 := Lib.hid hg
    obtain ⟨b9, rfl, q0, q1⟩ := hth
    clear hc hg q0 q1
    go_wp2_with fail
    exact ⟨rfl, G9.out, .inr ⟨C9.out, T9.out⟩⟩
/-- The contract of the program's expr.Read. -/
theorem read_all : ∀ n, RdC n
  | 0 => fun _ _ _ _ _ _ _ _ _ _ _ _ _ h => absurd h (Nat.not_lt_zero _)
  | n + 1 => read_step (level_step (k := 0) (by omega) (level_step (k := 1) (by omega) (level_step (k := 2) (by omega) (level_top (read_all n)))))
end
end Go.Proofs.YtofmheeiplagjaaGreatDoor.Tm
