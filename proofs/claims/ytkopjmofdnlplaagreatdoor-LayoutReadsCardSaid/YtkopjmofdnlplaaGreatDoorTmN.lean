/-
  PROVED HERE: the contract of the document's eyes' block. Conditions: as each theorem states.
-/
import Derived.Test.YtkopjmofdnlplaaGreatDoorTmM
namespace Go.Proofs.YtkopjmofdnlplaaGreatDoor.Tm
open Go.RowKit Go.Proofs.YtkopjmofdnlplaaGreatDoor.Lex Go.Proofs.YtkopjmofdnlplaaGreatDoor.Dig
theorem must_got {E : Nat} {σ : Ey} {s : ByteArray} (hs : s ≠ emp) (h : (must E σ s).c = 0) : txt σ = s ∧ σ.c = 0 ∧ (must E σ s).l.length < σ.l.length := by
  unfold must at h ⊢
  by_cases e : txt σ = s
  · have hne : txt σ ≠ emp := by rw [e]; exact hs
    rw [if_pos e] at h ⊢
    refine ⟨e, ?_, pass_lt hne⟩
    by_cases hc : σ.c = 0
    · exact hc
    · exact absurd (txt_stop hc) hne
  · rw [if_neg e] at h
    exact absurd h (wrong_bad _ _ _ (by decide))
theorem take_no {E : Nat} {σ : Ey} {s : ByteArray} (h : txt σ ≠ s) : take E σ s = σ := if_neg h
def bloopF (E : Nat) (I : Ey → It × Ey) : Nat → List It → Ey → List It × Ey
  | 0, l, τ => (l, τ)
  | m + 1, l, τ => if τ.c ≠ 0 then (l, τ) else if txt τ = ⟨#[125]⟩ then (l, take E τ ⟨#[125]⟩) else if 16 ≤ l.length then (l, wrong τ 4 (pos E τ : Nat)) else bloopF E I m (l ++ [(I τ).1]) (I τ).2
def openF (E deep : Nat) (σ : Ey) : Ey := if txt σ = ⟨#[123]⟩ ∧ 8 < deep then wrong σ 4 (pos E σ : Nat) else σ
/-- What the document's block makes of the tokens; I: what item makes of them. -/
def blcF (E : Nat) (I : Ey → It × Ey) (deep : Nat) (σ : Ey) : List It × Ey := bloopF E I 17 [] (must E (openF E deep σ) ⟨#[123]⟩)
def blkF : Nat → Nat → Nat → Ey → List It × Ey
  | 0, E, deep, σ => blcF E (fun τ => (x0 0, τ)) deep σ
  | n + 1, E, deep, σ => blcF E (fun τ => itmF E (blkF n E) deep τ) deep σ
theorem bloop_stop {E m : Nat} {I : Ey → It × Ey} {l : List It} {τ : Ey} (h : τ.c ≠ 0) : bloopF E I m l τ = (l, τ) := by
  cases m with
  | zero => rfl
  | succ m => exact if_pos h
theorem bloop_end {E m : Nat} {I : Ey → It × Ey} {l : List It} {τ : Ey} (h : τ.c = 0) (h1 : txt τ = ⟨#[125]⟩) : bloopF E I (m + 1) l τ = (l, take E τ ⟨#[125]⟩) := (if_neg (by simp [h])).trans (if_pos h1)
theorem bloop_many {E m : Nat} {I : Ey → It × Ey} {l : List It} {τ : Ey} (h : τ.c = 0) (h1 : txt τ ≠ ⟨#[125]⟩) (h2 : 16 ≤ l.length) : bloopF E I (m + 1) l τ = (l, wrong τ 4 (pos E τ : Nat)) := (if_neg (by simp [h])).trans ((if_neg h1).trans (if_pos h2))
theorem bloop_next {E m : Nat} {I : Ey → It × Ey} {l : List It} {τ : Ey} (h : τ.c = 0) (h1 : txt τ ≠ ⟨#[125]⟩) (h2 : ¬ 16 ≤ l.length) : bloopF E I (m + 1) l τ = bloopF E I m (l ++ [(I τ).1]) (I τ).2 := (if_neg (by simp [h])).trans ((if_neg h1).trans (if_neg h2))
def lenOf : Value → Nat | .slice _ n _ => n | _ => 0
def BkR (J : List It × Ey) (I : Ey → It × Ey) (G E : Nat) (σ : Ey) (deep : Nat) (W : World) (v : Value) (wr : World) : Prop := ∃ (lv : Value) (τ : Ey) (l : List Iv), Hid (PS G E lv τ wr) ∧ Hid (W.grownBy wr (some G)) ∧ Hid (Tm0 σ τ) ∧ Hid (OwnI wr W.heap.size v l) ∧ l.length ≤ 16 ∧ lenOf v = l.length ∧ Hid (τ.c = 0 → deep ≤ 8 ∧ cl (l.map (·.1)) + τ.l.length < σ.l.length ∧ WfL (l.map (·.1)) ∧ Aw W.heap.size v.ownBlock wr (AllI l)) ∧ Hid (J = bloopF E I (17 - l.length) (l.map (·.1)) τ)
theorem ps_keep {G E : Nat} {lv : Value} {σ : Ey} {w w' : World} (h : PS G E lv σ w) (hk : ∀ k, k ≤ G → w'.heap[k]? = w.heap[k]?) (hs : G < w'.heap.size) : PS G E lv σ w' := by
  have e := hk G (Nat.le_refl _)
  refine ⟨(World.cell?_of_block (a := ⟨G, 0, none⟩) e).trans h.c0, (World.cell?_of_block (a := ⟨G, 1, none⟩) e).trans h.c1, (World.cell?_of_block (a := ⟨G, 2, none⟩) e).trans h.c2, (World.cell?_of_block (a := ⟨G, 3, none⟩) e).trans h.c3, fun j => (World.frozen?_of_block (a := ⟨G, j, none⟩) e).trans (h.fz j), ?_, h.nb, hs⟩
  exact tks_kept h.tk fun hl k hkk => hk k (by have := h.nb hl k hkk; omega)
theorem gb_low {W w w' : World} {G : Nat} (h : W.grownBy w (some G)) (hb : Below W.heap.size w w') : W.grownBy w' (some G) :=
  ⟨hb.os.trans h.os, hb.tape.trans h.tape, hb.output.trans h.output, Nat.le_trans h.size hb.size, fun k hk hr => (hb.block k hk).trans (h.block k hk hr)⟩
theorem bk_end {J : List It × Ey} {G E : Nat} {lv : Value} {σ τ : Ey} {W wr w1 : World} {v : Value} {l : List Iv} (hp : PS G E lv τ w1) (hg : W.grownBy wr (some G)) (hg1 : wr.grownBy w1 (some G)) (hG : G < W.heap.size) (ht : Tm0 σ τ) (ho : OwnI wr W.heap.size v l) (hl : l.length ≤ 16)
    (h : τ.c = 0 → cl (l.map (·.1)) + τ.l.length < σ.l.length ∧ WfL (l.map (·.1)) ∧ Aw W.heap.size v.ownBlock wr (AllI l)) (hJ : J = (l.map (·.1), τ)) : BkP J G E σ W (.returned v) w1 := by
  have hne : v.ownBlock ≠ some G := by
    intro e
    have := (World.ownsRow.lt ho G e).1
    omega
  have ho1 := ho.grown hg1 hne
  refine ⟨τ, l.map (·.1), v, rfl, ⟨⟨lv, hp⟩, gb_trans hg hg1⟩, ht, ?_, fun ec => ?_, hJ⟩
  · obtain ⟨a, cap, e⟩ := ho.len
    exact ⟨a, _, cap, e⟩
  · obtain ⟨h1, h2, h3⟩ := h ec
    exact ⟨h1, by simpa using hl, h2, its_of ho1 (h3.grown hg1 hG)⟩
section
variable {n G E : Nat} {lv : Value} {σ : Ey} {W : World} {deep : Nat}
set_option maxRecDepth 100000 in
set_option maxHeartbeats 4000000 in
theorem block_run (I : Nat → Nat → Ey → It × Ey) (HI0 : ∀ (G E : Nat) (lv : Value) (τ : Ey) (W : World) (deep : Nat), Pre G E lv τ W → deep ≤ 8 → τ.c = 0 → τ.l.length + 1 < n → Calls Tryz.prog 112 #[.pointer (some ⟨G, 0, none⟩), .int .i64 (deep : Nat)] W (ItP (I E deep τ) G E τ W)) : BlockC n (fun E deep σ => blcF E (I E deep) deep σ) := by
  intro G E lv σ W deep P hd hn
  have HI := Lib.hid HI0
  have HP := Lib.hid P
  have HN := Lib.hid hn
  have hE := P.hE
  have hG := P.ps.lt
  have h0 := Lib.hid P.ps
  obtain ⟨J, hJ⟩ : ∃ J, blcF E (I E deep) deep σ = J := ⟨_, rfl⟩
  show Calls _ _ _ _ (BkP (blcF E (I E deep) deep σ) G E σ W)
  rw [hJ]
  have HJ := Lib.hid (show J = bloopF E (I E deep) 17 [] (must E (openF E deep σ) ⟨#[123]⟩) from hJ.symm)
  clear P HI0 hn hJ
  go_enter Tryz.func69, Tryz.ntmps69
  go_upto_region 1 with fail
  go_cut [12] (fun v wx => ∃ b : Bool, v = .bool b ∧ Hid (PS G E lv σ wx) ∧ Hid (W.grownBy wx (some G)) ∧ Hid (b = decide (txt σ = ⟨#[123]⟩ ∧ 8 < deep)))
  case first =>
    go_wp2_with fail
    refine (text_any h0.out).mono ?_; rintro e w1 ⟨rfl, hb⟩
    have h1 := Lib.hid (h0.out.below hb)
    have g1 := Lib.hid (gb_below (some G) hb)
    obtain ⟨s, hs⟩ : ∃ s, txt σ = s := ⟨_, rfl⟩
    rw [hs]
    clear hb
    by_cases c1 : s = ⟨#[123]⟩
    · have e1 : (s.toList == [123]) = true := tl_yes (a := #[123]) c1
      have HS := Lib.hid (hs.trans c1)
      clear c1 hs
      by_cases c2 : 8 < deep
      · have d2 : (8 : Int) < (deep : Int) := by omega
        go_wp2_with fail
        go_meet
        exact ⟨true, by first | rfl | simp [d2], h1, g1, Lib.hid (decide_eq_true ⟨HS.out, c2⟩).symm⟩
      · have d2 : ¬ (8 : Int) < (deep : Int) := by omega
        go_wp2_with fail
        go_meet
        exact ⟨false, by first | rfl | simp [d2], h1, g1, Lib.hid (decide_eq_false (fun h => c2 h.2)).symm⟩
    · have e1 : (s.toList == [123]) = false := tl_no (a := #[123]) c1
      have HS := Lib.hid (show txt σ ≠ ⟨#[123]⟩ by rw [hs]; exact c1)
      clear c1 hs
      go_wp2_with fail
      go_meet
      exact ⟨false, rfl, h1, g1, Lib.hid (decide_eq_false (fun h => HS.out h.1)).symm⟩
  case rest =>
    clear h0
    obtain ⟨b, rfl, h1, g1, B1⟩ := hcut
    go_upto_if 12 with fail
    go_cut [] (fun wx => ∃ (lv : Value) (τ : Ey), Hid (PS G E lv τ wx) ∧ Hid (W.grownBy wx (some G)) ∧ Hid (τ = openF E deep σ))
    case first =>
      cases b with
      | true =>
        have O1 := Lib.hid (show wrong σ 4 (pos E σ : Nat) = openF E deep σ from (if_pos (of_decide_eq_true B1.out.symm)).symm)
        go_wp2_with fail
        refine (place_any h1.out).mono ?_; rintro e w2 ⟨rfl, hb⟩
        have h2 := Lib.hid (h1.out.below hb)
        have g2 := Lib.hid (gb_trans g1.out (gb_below (some G) hb))
        generalize pos E σ = kp at *
        clear hb
        go_wp2_with fail
        refine (wrong_any h2.out 4 (kp : Nat)).mono ?_; rintro e w3 ⟨rfl, ⟨lv3, hp⟩, hg⟩
        have h3 := Lib.hid hp
        have g3 := Lib.hid (gb_trans g2.out hg)
        clear hp hg
        go_wp2_with fail
        go_meet
        exact ⟨lv3, _, h3, g3, O1⟩
      | false =>
        go_wp2_with fail
        go_meet
        exact ⟨lv, σ, h1, g1, Lib.hid (if_neg (of_decide_eq_false B1.out.symm)).symm⟩
    case rest =>
      clear h1 g1 B1
      obtain ⟨lv2, τ2, h2, g2, O2⟩ := hcut
      have HJ := Lib.hid (show J = bloopF E (I E deep) 17 [] (must E τ2 ⟨#[123]⟩) by rw [O2.out]; exact HJ.out)
      have T2 := Lib.hid (show Tm0 σ τ2 by rw [O2.out]; exact ite_0 (wrong_0 _ _ _))
      have B2 := Lib.hid (show τ2.c = 0 → 8 < deep → txt τ2 ≠ ⟨#[123]⟩ from fun ec h8 e => by
        by_cases hh : txt σ = ⟨#[123]⟩ ∧ 8 < deep
        · rw [O2.out, openF, if_pos hh] at ec
          exact absurd ec (wrong_bad _ _ _ (by decide))
        · rw [O2.out, openF, if_neg hh] at e
          exact hh ⟨e, h8⟩)
      clear O2
      go_wp2_with fail
      refine (must_any h2.out ⟨#[123]⟩ (by decide)).mono ?_; rintro e w3 ⟨rfl, ⟨lv3, hp⟩, hg⟩
      have h3 := Lib.hid hp
      have g3 := Lib.hid (gb_trans g2.out hg)
      have T3 := Lib.hid (T2.out.trans (must_0 E τ2 ⟨#[123]⟩))
      have B3 := Lib.hid (show (must E τ2 ⟨#[123]⟩).c = 0 → deep ≤ 8 ∧ (must E τ2 ⟨#[123]⟩).l.length < σ.l.length from fun ec => by
        obtain ⟨m1, m2, m3⟩ := must_got (by decide) ec
        refine ⟨?_, Nat.lt_of_lt_of_le m3 T2.out.2.1⟩
        rcases Nat.lt_or_ge 8 deep with h | h
        · exact absurd m1 (B2.out m2 h)
        · exact h)
      generalize must E τ2 ⟨#[123]⟩ = τ3 at *
      clear hp hg h2 g2 T2 B2
      go_wp2_with fail
      go_loopw [5] (fun v wr => BkR J (I E deep) G E σ deep W v wr) (fun v _ => 17 - lenOf v)
      case atStart => exact ⟨lv3, τ3, [], h3, g3, T3, Lib.hid (ownI_nil _ _), Nat.zero_le _, rfl, Lib.hid (fun ec => ⟨(B3.out ec).1, by have := (B3.out ec).2; simpa [cl] using this, trivial, aw_nil _ _ _⟩), HJ⟩
      case round =>
        clear h3 g3 T3 B3 HJ
        obtain ⟨lv4, τ4, l, h4, g4, T4, O4, hl16, hlo, B4, HJ⟩ := hrel
        have h17 : 17 - l.length = 16 - l.length + 1 := by omega
        have HJ := Lib.hid (show J = bloopF E (I E deep) (16 - l.length + 1) (l.map (·.1)) τ4 by rw [← h17]; exact HJ.out)
        clear h17
        obtain ⟨a4, cap4, rfl⟩ := O4.out.len
        have A4 := Lib.hid (T4.out.1 HP.out.at_)
        have hgs := g4.out.size
        obtain ⟨bd, hbd⟩ : ∃ b, τ4.bad = b := ⟨_, rfl⟩
        go_wp2_with fail
        refine (stop_any h4.out).mono ?_; rintro e w5 ⟨rfl, hb⟩
        have h5 := Lib.hid (h4.out.below hb)
        have g5 := Lib.hid (gb_below (some G) hb)
        clear hb
        rw [hbd]
        by_cases hc : τ4.c = 0
        · obtain rfl : bd = false := by rw [← hbd]; exact bad_no hc
          obtain ⟨hd8, hl4, hw4, ha4⟩ := B4.out hc
          have Aw4 := Lib.hid ha4
          have Wf4 := Lib.hid hw4
          clear hbd ha4 hw4
          go_wp2_with fail
          refine (take_any h5.out ⟨#[125]⟩).mono ?_; rintro e w6 ⟨rfl, ⟨lv6, hp⟩, hg⟩
          have g6 := Lib.hid (gb_trans g5.out hg)
          by_cases c6 : txt τ4 = ⟨#[125]⟩
          · have d6 : decide (txt τ4 = ⟨#[125]⟩) = true := decide_eq_true c6
            rw [d6]
            have h6 := Lib.hid hp
            have T6 := Lib.hid (T4.out.trans (take_0 E τ4 ⟨#[125]⟩))
            have L6 := (take_0 E τ4 ⟨#[125]⟩).2.1
            have HJ := Lib.hid (HJ.out.trans (bloop_end hc c6))
            clear hp hg c6 d6
            go_wp2_with fail
            go_ret
            exact bk_end h6.out g4.out g6.out hG T6.out O4.out hl16 (fun _ => ⟨by omega, Wf4.out, Aw4.out⟩) HJ.out
          · have d6 : decide (txt τ4 = ⟨#[125]⟩) = false := decide_eq_false c6
            rw [d6]
            rw [take_no c6] at hp
            have h6 := Lib.hid hp
            have N6 := Lib.hid c6
            clear hp hg c6 d6
            by_cases h16 : 16 ≤ l.length
            · have i16 : (16 : Int) ≤ (l.length : Int) := by omega
              have HJ := Lib.hid (HJ.out.trans (bloop_many hc N6.out (by simpa using h16)))
              go_wp2_with fail
              refine (place_any h6.out).mono ?_; rintro e w7 ⟨rfl, hb⟩
              have h7 := Lib.hid (h6.out.below hb)
              have g7 := Lib.hid (gb_trans g6.out (gb_below (some G) hb))
              generalize pos E τ4 = kp at *
              clear hb
              go_wp2_with fail
              refine (wrong_any h7.out 4 (kp : Nat)).mono ?_; rintro e w8 ⟨rfl, ⟨lv8, hp⟩, hg⟩
              have h8 := Lib.hid hp
              have g8 := Lib.hid (gb_trans g7.out hg)
              clear hp hg
              go_wp2_with fail
              go_ret
              exact bk_end h8.out g4.out g8.out hG (T4.out.trans (wrong_0 τ4 4 (kp : Nat))) O4.out hl16 (fun ec => absurd ec (wrong_bad _ _ _ (by decide))) HJ.out
            · have i16 : (l.length : Int) < 16 := by omega
              have HJ := Lib.hid (HJ.out.trans (bloop_next hc N6.out (by simpa using h16)))
              have hf16 : 16 - l.length = 17 - (l.length + 1) := by omega
              obtain ⟨JI, hJI⟩ : ∃ j, I E deep τ4 = j := ⟨_, rfl⟩
              rw [hf16] at HJ
              clear hf16
              have hI := Lib.hid (HI.out G E lv6 τ4 w6 deep ⟨h6.out, A4.out, hE, HP.out.mx.grown (gb_trans g4.out g6.out) HP.out.gm, Nat.lt_of_lt_of_le HP.out.ml (gb_trans g4.out g6.out).size, HP.out.gm, Nat.le_trans T4.out.2.1 HP.out.few⟩ hd8 hc (by have := HN.out; have := T4.out.2.2; by_cases h : σ.c = 0; have := HN.out h; omega; rw [T4.out.2.2 h] at hc; exact absurd hc h))
              go_wp2_with fail
              refine (hI.out).mono ?_; rintro e w7 ⟨τ7, ⟨q0, q1, q2, q3, q4, q5, q6, q7, q8, q9, q10, q11, q12⟩, p5, iv, rfl, ⟨⟨lv7, hp⟩, hg⟩, ht7, ⟨ai, mi, ci, rfl⟩, hx7, hj7⟩
              rw [hJI] at HJ
              have HJ := Lib.hid (show J = bloopF E (I E deep) (17 - (l.length + 1)) (l.map (·.1) ++ [.mk q0 q1 q2 q3 q4 q5 q6 q7 q8 q9 q10 q11 q12]) τ7 by have q := HJ.out; rw [← hJI, hj7] at q; exact q)
              have h7 := Lib.hid hp
              have g7 := Lib.hid (gb_trans g6.out hg)
              have G7 := Lib.hid hg
              have T7 := Lib.hid (T4.out.trans ht7)
              have X7 := Lib.hid hx7
              have s6 := g6.out.size
              have s7 := g7.out.size
              have hne : (Value.slice a4 l.length cap4).ownBlock ≠ some G := by
                intro e
                have := (World.ownsRow.lt O4.out G e).1
                omega
              have O7 := Lib.hid (O4.out.grown g7.out hne)
              clear hp hg ht7 hx7 hI hj7 hJI
              rw [show (itVals (.mk q0 q1 q2 q3 q4 q5 q6 q7 q8 q9 q10 q11 q12) (.pointer p5) (.slice ai mi ci)).toArray = #[.int .i64 q0, .int .i64 (q1 : Nat), .string q2, .string q3, .int .i64 q4, .int .i64 q5, .bool q6, .bool q7, .pointer p5, .int .i64 q9, .string q10, .string q11, .slice ai mi ci] from rfl]
              go_wp2_with (at_builtin; refine ownI_append1 rfl _ _ rfl W.heap.size (.slice a4 l.length cap4) l rfl (O7.out.alloc _) _ 1 (.mk q0 q1 q2 q3 q4 q5 q6 q7 q8 q9 q10 q11 q12, .pointer p5, .slice ai mi ci) rfl (heap_alloc_new _ _) rfl rfl (by omega) (by simp; omega) ?_; intro v8 w8 ho8 hg8 hb8 hat8; have O8 := Lib.hid ho8; have G8 := Lib.hid hg8; have B8 := Lib.hid hb8; have AT8 := Lib.hid hat8; clear ho8 hg8 hb8 hat8)
              obtain ⟨a8, cap8, rfl⟩ := O8.out.len
              have hb7 := Lib.hid ((Below.refl w7.heap.size w7).alloc (Nat.le_refl _) (.cells #[.int .i64 q0, .int .i64 (q1 : Nat), .string q2, .string q3, .int .i64 q4, .int .i64 q5, .bool q6, .bool q7, .pointer p5, .int .i64 q9, .string q10, .string q11, .slice ai mi ci] 78))
              have p7 := Lib.hid (h7.out.below hb7.out)
              have g77 := Lib.hid (gb_trans (gb_trans g4.out g7.out) (gb_below (some G) hb7.out))
              have hp8 := ps_keep p7.out (fun k hk => B8.out.block k (by omega)) (Nat.lt_of_lt_of_le p7.out.lt B8.out.size)
              refine ⟨⟨lv7, τ7, _, Lib.hid hp8, Lib.hid (gb_low g77.out B8.out), T7, O8, by simp; omega, by simp [lenOf], Lib.hid fun ec => ?_, Lib.hid (by rw [HJ.out]; simp)⟩, ?_⟩
              · obtain ⟨x1, x2, x3⟩ := X7.out ec
                refine ⟨hd8, by rw [List.map_append, List.map_cons, List.map_nil, cl_snoc]; simp only; omega, by rw [List.map_append]; exact wfL_snoc Wf4.out x2, ?_⟩
                exact aw_next Aw4.out (Fw.low x3 s6) (fun k e => (World.ownsRow.lt O4.out k e).2) hgs g7.out hG hb7.out G8.out AT8.out
              · simp only [lenOf, List.length_append, List.length_singleton]
                omega
        · obtain rfl : bd = true := by rw [← hbd]; exact bad_yes hc
          clear hbd
          go_wp2_with fail
          go_ret
          exact bk_end h5.out g4.out g5.out hG T4.out O4.out hl16 (fun ec => absurd ec hc) (HJ.out.trans (bloop_stop hc))
end
theorem block_ok : ∀ n, BlockC n (blkF n) := by
  intro n
  induction n with
  | zero => exact block_run (fun _ _ τ => (x0 0, τ)) fun _ _ _ _ _ _ _ _ _ hn => absurd hn (Nat.not_lt_zero _)
  | succ n IH => exact block_run (fun E deep τ => itmF E (blkF n E) deep τ) fun G E lv τ W deep P hd hc hn => item_any IH P hd hc (by omega)
end Go.Proofs.YtkopjmofdnlplaaGreatDoor.Tm
