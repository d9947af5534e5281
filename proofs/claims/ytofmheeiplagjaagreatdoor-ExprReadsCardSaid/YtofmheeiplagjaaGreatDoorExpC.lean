/-
  PROVED HERE: the contract of the program's expr.one, where Read is known for fewer tokens. Conditions: as each theorem states.
-/
import Derived.Test.YtofmheeiplagjaaGreatDoorExpB
import Derived.Test.YtofmheeiplagjaaGreatDoorErrB
namespace Go.Proofs.YtofmheeiplagjaaGreatDoor.Tm
open Go.RowKit Go.Proofs.YtofmheeiplagjaaGreatDoor.Lex Go.Proofs.YtofmheeiplagjaaGreatDoor.Dig
/-- The ops of the program's levels. -/
def lvs : Nat → List ByteArray
  | 0 => [⟨#[61, 61]⟩, ⟨#[33, 61]⟩, ⟨#[60]⟩, ⟨#[62]⟩]
  | 1 => [⟨#[43]⟩, ⟨#[45]⟩, ⟨#[124]⟩]
  | 2 => [⟨#[42]⟩, ⟨#[38]⟩]
  | _ => []
/-- What the reader's functions need of memory, in blocks below B. -/
structure LH (B : Nat) (w : World) : Prop where
  home : Err.Home w
  hb : 2 < B
  lb : 0 < B
  lv : ∀ k, k < 3 → ∃ b o c, w.cell? ⟨0, k, none⟩ = some (.slice (some ⟨b, o, none⟩) (lvs k).length c) ∧ b < B ∧ ∀ j (hj : j < (lvs k).length), w.cell? ⟨b, o + j, none⟩ = some (.string (lvs k)[j])
theorem LH.keep {B : Nat} {w w' : World} (h : LH B w) (e : ∀ k, k < B → w'.heap[k]? = w.heap[k]?) : LH B w' := by
  refine ⟨?_, h.hb, h.lb, fun k hk => ?_⟩
  · unfold Err.Home
    rw [World.cell?_of_block (a := ⟨2, 0, none⟩) (e _ h.hb)]
    exact h.home
  · obtain ⟨b, o, c, h1, h2, h3⟩ := h.lv k hk
    refine ⟨b, o, c, ?_, h2, fun j hj => ?_⟩
    · rw [World.cell?_of_block (a := ⟨0, k, none⟩) (e _ h.lb)]; exact h1
    · rw [World.cell?_of_block (a := ⟨b, o + j, none⟩) (e _ h2)]; exact h3 j hj
theorem LH.mono_b {B B' : Nat} {w : World} (h : LH B w) (hB : B ≤ B') : LH B' w := by
  refine ⟨h.home, Nat.lt_of_lt_of_le h.hb hB, Nat.lt_of_lt_of_le h.lb hB, fun k hk => ?_⟩
  obtain ⟨b, o, c, h1, h2, h3⟩ := h.lv k hk
  exact ⟨b, o, c, h1, Nat.lt_of_lt_of_le h2 hB, h3⟩
theorem LH.grown {B G : Nat} {w w' : World} (h : LH B w) (hG : B ≤ G) (hB : B ≤ w.heap.size) (hg : w.grownBy w' (some G)) : LH B w' :=
  h.keep fun k hk => hg.block k (by omega) (fun e => by injection e; omega)
def LvP (G E : Nat) (r : Pr) (W : World) (e : Ending) (w' : World) : Prop :=
  W.grownBy w' (some G) ∧ ((∃ v x lv', e = .returned v ∧ r.1 = some x ∧ RS G E lv' r.2 w' ∧ ExF W.heap.size w' x v ∧ ∃ p, v = .pointer p) ∨ (r.2.c ≠ 0 ∧ LThr w' (r.2.c, r.2.a) e))
def RdC (n : Nat) : Prop := ∀ (B G E : Nat) (lv : Value) (σ : Ey) (W : World) (deep : Nat), RS G E lv σ W → LH B W → B ≤ G → AllT σ.l → E ≤ 4000 → deep ≤ 8 → σ.l.length < n →
  Calls Tryz.prog 28 #[.pointer (some ⟨G, 0, none⟩), .int .i64 (deep : Nat)] W (LvP G E (exprF E n 1 deep σ) W)
theorem RS.err {G E : Nat} {lv : Value} {σ : Ey} {w : World} (h : RS G E lv σ w) (e k : Int) : wrong σ e k = ⟨e, k, σ.l⟩ := if_pos h.ok
theorem must_stop {E : Nat} {σ : Ey} (h : σ.c ≠ 0) {s : ByteArray} (hs : s ≠ emp) : must E σ s = σ := by
  unfold must
  rw [txt_stop h, if_neg (fun e => hs e.symm), wrong_stop h]
theorem take_stop {E : Nat} {σ : Ey} (h : σ.c ≠ 0) {s : ByteArray} (hs : s ≠ emp) : take E σ s = σ := by
  unfold take
  rw [txt_stop h, if_neg (fun e => hs e.symm)]
section
variable {n B G E : Nat} {lv : Value} {σ : Ey} {W : World} {deep : Nat}
set_option maxRecDepth 100000 in
set_option maxHeartbeats 4000000 in
theorem one_open (IH : RdC n) (h : RS G E lv σ W) (hL : LH B W) (hBG : B ≤ G) (hA : AllT σ.l) (hE : E ≤ 4000) (hd : deep ≤ 8) (hn : σ.l.length < n + 1) (ht : txt σ = ⟨#[40]⟩) : Calls Tryz.prog 79 #[.pointer (some ⟨G, 0, none⟩), .int .i64 (deep : Nat)] W (LvP G E (singleF E (fun d τ => exprF E n 1 d τ) deep σ) W) := by
  have hGs := h.lt
  have h0 := Lib.hid h
  have HL := Lib.hid hL
  have hne : txt σ ≠ emp := by rw [ht]; exact lp_ne
  have htk : take E σ ⟨#[40]⟩ = pass E σ := if_pos ht
  have hdec : decide (txt σ = ⟨#[40]⟩) = true := decide_eq_true ht
  have hplt := pass_lt (E := E) hne
  have hpa := pass_all (E := E) hA
  by_cases h8 : deep = 8
  · have hr : singleF E (fun d τ => exprF E n 1 d τ) deep σ = (none, ⟨4, (pos E σ : Nat), σ.l⟩) := by
      unfold singleF
      have h4 : (⟨4, (pos E σ : Nat), σ.l⟩ : Ey).c ≠ 0 := show (4 : Int) ≠ 0 by decide
      rw [if_neg (by simp [h.ok]), if_pos ht, if_pos (by omega), h.err, take_stop h4 lp_ne]
      simp only [exprF_stop n 1 (deep + 1) h4, must_stop h4 rp_ne]
    rw [hr]
    subst h8
    clear hr h hL ht hn hA
    go_enter Tryz.func79, Tryz.ntmps79
    go_wp2_with fail
    refine (At_any h0.out).mono ?_; rintro e w1 ⟨rfl, hb⟩
    have h1 := Lib.hid (h0.out.below hb)
    have g1 := Lib.hid (gb_below (some G) hb)
    clear hb
    go_wp2_with fail
    refine (Take_any h1.out ⟨#[40]⟩ (by decide)).mono ?_; rintro e w2 ⟨rfl, hs, hg⟩
    rw [hdec]
    have g2 := Lib.hid (gb_trans g1.out hg)
    clear hs hg
    go_wp2_with fail
    refine (Fail_any _ _ _).mono ?_; rintro e w3 ⟨⟨b9, rfl, q0, q1⟩, hb⟩
    have HS := Lib.hid (gb_trans g2.out (gb_below (some G) hb))
    have T9 := Lib.hid (show LThr w3 (4, (pos E σ : Nat)) _ from ⟨b9, rfl, q0, q1⟩)
    clear hb q0 q1
    go_wp2_with fail
    exact ⟨rfl, HS.out, .inr ⟨show (4 : Int) ≠ 0 by decide, T9.out⟩⟩
  · have hr : singleF E (fun d τ => exprF E n 1 d τ) deep σ = ((exprF E n 1 (deep + 1) (pass E σ)).1, must E (exprF E n 1 (deep + 1) (pass E σ)).2 ⟨#[41]⟩) := by
      unfold singleF
      rw [if_neg (by simp [h.ok]), if_pos ht, if_neg (by omega), htk]
    rw [hr]
    have HI := Lib.hid (fun (W : World) (lv : Value) (h1 : RS G E lv (pass E σ) W) (h2 : LH B W) => IH B G E lv (pass E σ) W (deep + 1) h1 h2 hBG hpa hE (by omega) (by omega))
    have n8 : ((deep : Int) == 8) = false := by rw [beq_eq_false_iff_ne]; omega
    have hBs : B ≤ W.heap.size := by omega
    obtain ⟨r, hre⟩ : ∃ r, exprF E n 1 (deep + 1) (pass E σ) = r := ⟨_, rfl⟩
    rw [hre] at HI ⊢
    obtain ⟨d1, hd1⟩ : ∃ d1, deep + 1 = d1 := ⟨_, rfl⟩
    have hd2 : (deep : Int) + 1 = (d1 : Int) := by omega
    rw [hd1] at HI
    clear hr h hL ht hn hA IH hre hd1
    go_enter Tryz.func79, Tryz.ntmps79
    go_wp2_with fail
    refine (At_any h0.out).mono ?_; rintro e w1 ⟨rfl, hb⟩
    have h1 := Lib.hid (h0.out.below hb)
    have g1 := Lib.hid (gb_below (some G) hb)
    clear hb
    go_wp2_with fail
    refine (Take_any h1.out ⟨#[40]⟩ (by decide)).mono ?_; rintro e w2 ⟨rfl, ⟨lv2, hp⟩, hg⟩
    rw [hdec]
    rw [htk] at hp
    have h2 := Lib.hid hp
    have g2 := Lib.hid (gb_trans g1.out hg)
    have L2 := Lib.hid (HL.out.grown hBG hBs g2.out)
    clear hp hg
    go_wp2_with fail
    refine (HI.out w2 lv2 h2.out L2.out).mono ?_; rintro e w3 ⟨hg, hout⟩
    have g3 := Lib.hid (gb_trans g2.out hg)
    rcases hout with ⟨v, x, lv3, rfl, hx, hp, hxf, p, rfl⟩ | ⟨hc, hth⟩
    · have h3 := Lib.hid hp
      have X3 := Lib.hid hxf
      have HX := Lib.hid hx
      clear hp hxf hx hg
      go_wp2_with fail
      refine (Must_any h3.out ⟨#[41]⟩ (by decide)).mono ?_; rintro e w4 ⟨hg, hout⟩
      have g4 := Lib.hid (gb_trans g3.out hg)
      rcases hout with ⟨rfl, lv4, hp⟩ | ⟨hc, hth⟩
      · have h4 := Lib.hid hp
        have X4 := Lib.hid (ExF.grown X3.out hg (Nat.lt_of_lt_of_le hGs g2.out.size))
        clear hp hg
        go_wp2_with fail
        go_ret
        exact ⟨g4.out, .inl ⟨_, x, lv4, rfl, HX.out, h4.out, X4.out.low g2.out.size, p, rfl⟩⟩
      · have T9 := Lib.hid hth
        have C9 := Lib.hid hc
        obtain ⟨b9, rfl, q0, q1⟩ := hth
        clear hc hg q0 q1
        go_wp2_with fail
        exact ⟨rfl, g4.out, .inr ⟨C9.out, T9.out⟩⟩
    · have T9 := Lib.hid hth
      have C9 := Lib.hid hc
      obtain ⟨b9, rfl, q0, q1⟩ := hth
      clear hc hg q0 q1
      go_wp2_with fail
      refine ⟨rfl, g3.out, .inr ?_⟩
      rw [must_stop C9.out rp_ne]
      exact ⟨C9.out, T9.out⟩
end
end Go.Proofs.YtofmheeiplagjaaGreatDoor.Tm
