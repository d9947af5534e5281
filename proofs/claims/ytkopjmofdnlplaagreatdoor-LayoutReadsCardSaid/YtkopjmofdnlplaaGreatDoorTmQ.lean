/-
  PROVED HERE: the contract of the document's the document's TmplParse. Conditions: as each theorem states.
-/
import Derived.Test.YtkopjmofdnlplaaGreatDoorTmP
import Derived.Deep.DeepCutAuto
import Derived.Deep.CutBlock
namespace Go.Proofs.YtkopjmofdnlplaaGreatDoor.Tm
open Go.RowKit Go.Proofs.YtkopjmofdnlplaaGreatDoor.Lex Go.Proofs.YtkopjmofdnlplaaGreatDoor.Dig
/-- What TmplParse answers, of a text that is not far. -/
def typF (E : Nat) (k : Nat) (n : ByteArray × Ey) : Ty × Ey := (⟨n.1, k, (blkF (n.2.l.length + 1) E 1 n.2).1⟩, (blkF (n.2.l.length + 1) E 1 n.2).2)
def headF8 (E m : Nat) (τ : Ey) : Ey := if txt τ = ⟨#[115, 116, 114, 117, 99, 116]⟩ ∧ 8 ≤ m then wrong τ 4 (pos E τ : Nat) else τ
def typsF (E m : Nat) (τ : Ey) : Ty × Ey := let σ := must E (headF8 E m τ) ⟨#[115, 116, 114, 117, 99, 116]⟩; typF E (pos E σ) (nameF E σ)
def tloopF (E : Nat) : Nat → List Ty → Ey → List Ty × Ey
  | 0, l, τ => (l, τ)
  | m + 1, l, τ => if τ.c ≠ 0 ∨ τ.l.length = 0 then (l, τ) else tloopF E m (l ++ [(typsF E l.length τ).1]) (typsF E l.length τ).2
theorem tloop_stop {E m : Nat} {l : List Ty} {τ : Ey} (h : τ.c ≠ 0 ∨ τ.l.length = 0) : tloopF E m l τ = (l, τ) := by
  cases m with
  | zero => rfl
  | succ m => exact if_pos h
theorem tloop_next {E m : Nat} {l : List Ty} {τ : Ey} (h : τ.c = 0) (h1 : 0 < τ.l.length) : tloopF E (m + 1) l τ = tloopF E m (l ++ [(typsF E l.length τ).1]) (typsF E l.length τ).2 := if_neg (by simp [h]; intro e; rw [e] at h1; simp at h1)
/-- What the document's parser makes of a text. -/
def tmplF (s : ByteArray) : List Ty × Int × Int :=
  if rc s ≠ 0 then ([], rc s, rp s)
  else let r := tloopF s.size 10 [] ⟨0, -1, rl s⟩
    if r.2.c ≠ 0 then ([], r.2.c, r.2.a) else (r.1, 0, -1)
theorem tmplF_lex {s : ByteArray} (h : rc s ≠ 0) : tmplF s = ([], rc s, rp s) := if_pos h
theorem tmplF_bad {s : ByteArray} (h : rc s = 0) {r : List Ty × Ey} (hr : r = tloopF s.size 10 [] ⟨0, -1, rl s⟩) (h2 : r.2.c ≠ 0) : tmplF s = ([], r.2.c, r.2.a) := by
  subst hr
  exact (if_neg (by simp [h])).trans (if_pos h2)
theorem tmplF_ok {s : ByteArray} (h : rc s = 0) {r : List Ty × Ey} (hr : r = tloopF s.size 10 [] ⟨0, -1, rl s⟩) (h2 : r.2.c = 0) : tmplF s = (r.1, 0, -1) := by
  subst hr
  exact (if_neg (by simp [h])).trans (if_neg (by simp [h2]))
/-- .. and in memory. -/
def TpS (s : ByteArray) (W : World) (e : Ending) (w' : World) : Prop := ∃ v : Value, e = .returned (.tuple #[v, .agg #[.int .i64 (tmplF s).2.1, .int .i64 (tmplF s).2.2]]) ∧ Below W.heap.size W w' ∧ (∃ a m k, v = .slice a m k) ∧ TysF W.heap.size w' (tmplF s).1 v ∧ ((tmplF s).2.1 = 0 → (tmplF s).1.length ≤ 8 ∧ (∀ t ∈ (tmplF s).1, WfL t.items ∧ t.items.length ≤ 16 ∧ t.name.size ≤ 1000 ∧ cl t.items ≤ 4000))
theorem tysF_nil (lo : Nat) (w : World) : TysF lo w [] (.slice none 0 0) := fun _ _ => ⟨none, 0, rfl, Nat.le_refl _, fun i hi => absurd hi (Nat.not_lt_zero i)⟩
def TpP (W : World) (e : Ending) (w' : World) : Prop := ∃ (v : Value) (l : List Ty) (c p : Int), e = .returned (.tuple #[v, .agg #[.int .i64 c, .int .i64 p]]) ∧ Below W.heap.size W w' ∧ (∃ a m k, v = .slice a m k) ∧ (c = 0 → l.length ≤ 8 ∧ (∀ t ∈ l, WfL t.items ∧ t.items.length ≤ 16 ∧ t.name.size ≤ 1000 ∧ cl t.items ≤ 4000) ∧ TysF W.heap.size w' l v)
theorem tp_results (tmps : Array Value) (w : World) (g : Nat) (v0 v1 : Value) (h3 : tmps.getD 3 undef = .pointer (some ⟨g, 0, none⟩)) (c0 : w.cell? ⟨g, 0, none⟩ = some v0) (c1 : w.cell? ⟨g, 1, none⟩ = some v1) :
    (results Tryz.f30 tmps).run Tryz.prog w = .ok (.tuple #[tmps.getD 2 undef, .agg #[v0, v1]]) w := by
  have h3' : tmps[3]?.getD undef = .pointer (some ⟨g, 0, none⟩) := by simpa using h3
  simp only [results, Tryz.f30]
  simp [go_sem, h3', c0, c1]
theorem below_of_gb {B G : Nat} {W w w' : World} (h : Below B W w) (hg : w.grownBy w' (some G)) (hG : B ≤ G) (hB : B ≤ w.heap.size := by first | exact Nat.le_trans (by assumption) (by assumption) | omega) : Below B W w' :=
  ⟨hg.os.trans h.os, hg.tape.trans h.tape, hg.output.trans h.output, Nat.le_trans h.size hg.size, fun k hk => (hg.block k (by omega) (fun e => by simp only [Option.some.injEq] at e; omega)).trans (h.block k hk)⟩
theorem below_set {B k j : Nat} {W w : World} {v : Value} (h : Below B W w) (hk : B ≤ k) : Below B W (w.setCell ⟨k, j, none⟩ v) :=
  ⟨h.os, h.tape, h.output, by rw [show (w.setCell ⟨k, j, none⟩ v).heap.size = w.heap.size by simp [World.setCell]]; exact h.size, fun i hi => (Below.heap_setCell _ _ _ _ (show i ≠ k by omega)).trans (h.block i hi)⟩
/-- The loop's relation, w2 the world at its head. -/
def TpR (J : List Ty × Ey) (G E : Nat) (w2 : World) (σ : Ey) (v : Value) (wr : World) : Prop := ∃ (lv : Value) (τ : Ey) (l : List Tv), Hid (PS G E lv τ wr) ∧ Hid (w2.grownBy wr (some G)) ∧ Hid (Tm0 σ τ) ∧ Hid (OwnY wr w2.heap.size v l) ∧ l.length ≤ 9 ∧ lenOf v = l.length ∧ Hid (τ.c = 0 → l.length ≤ 8 ∧ (∀ t ∈ l, WfL t.1.items ∧ t.1.items.length ≤ 16 ∧ t.1.name.size ≤ 1000 ∧ cl t.1.items ≤ 4000) ∧ Aw w2.heap.size v.ownBlock wr (AllY l)) ∧ Hid (J = tloopF E (10 - l.length) (l.map (·.1)) τ)
section
variable {W : World}
set_option maxRecDepth 100000 in
set_option maxHeartbeats 4000000 in
theorem tmpl_strong (s : ByteArray) (hs : s.size ≤ 4000) (hf : s.size ≤ 900 ∨ 3000 < s.size) (hM : Mx W) (hml : 1 < W.heap.size) : Calls Tryz.prog 30 #[.string s] W (TpS s W) := by
  have HM := Lib.hid hM
  have HA := Lib.hid (allT_rl hf)
  have T0 := Lib.hid (fun (h : rc s ≠ 0) => tmplF_lex h)
  have T1 := Lib.hid (fun (h : rc s = 0) (r : List Ty × Ey) (hr : r = tloopF s.size 10 [] ⟨0, -1, rl s⟩) (h2 : r.2.c ≠ 0) => tmplF_bad h hr h2)
  have T2 := Lib.hid (fun (h : rc s = 0) (r : List Ty × Ey) (hr : r = tloopF s.size 10 [] ⟨0, -1, rl s⟩) (h2 : r.2.c = 0) => tmplF_ok h hr h2)
  unfold TpS
  obtain ⟨R, hR⟩ : ∃ R, tmplF s = R := ⟨_, rfl⟩
  rw [hR] at T0 T1 T2
  simp only [hR]
  have HPost := Lib.hid hR
  clear hM hR HPost
  go_enter Tryz.func30, Tryz.ntmps30
  go_wp2_with fail
  refine (newEyes_any s hs _).mono ?_; rintro e w1 ⟨G, lv, rfl, hp, hb, hG⟩
  have hG' : W.heap.size + 1 ≤ G := by simpa using hG
  have hsz : (W.alloc (.cells #[.int .i64 0, .int .i64 0] 30)).heap.size = W.heap.size + 1 := by simp
  have hB := Lib.hid hb
  have hP := Lib.hid hp
  have hl1 := hp.lt
  have hr := (hb.block W.heap.size (by omega)).trans (heap_alloc_new _ _)
  have B1 := Lib.hid (show Below W.heap.size W w1 from ((Below.refl _ _).alloc (Nat.le_refl _) _).trans ⟨hb.os, hb.tape, hb.output, hb.size, fun k hk => hb.block k (by omega)⟩)
  obtain ⟨C, hC⟩ : ∃ c, rc s = c := ⟨_, rfl⟩
  obtain ⟨Pp, hPp⟩ : ∃ c, rp s = c := ⟨_, rfl⟩
  rw [hC, hPp]
  rw [hC] at T0 T1 T2
  rw [hPp] at T0
  clear hp hb hG
  go_upto_region 2 with fail
  obtain ⟨w2, hw2⟩ : ∃ w2, w2 = w1.alloc (.cells #[.int .i64 C, .int .i64 Pp] 30) := ⟨_, rfl⟩
  have hF : w2.heap[w1.heap.size]? = some (.cells #[.int .i64 C, .int .i64 Pp] 30) := by rw [hw2]; exact heap_alloc_new _ _
  have hR : w2.heap[W.heap.size]? = some (.cells #[.int .i64 0, .int .i64 0] 30) := by rw [hw2]; exact (heap_alloc_old _ _ (by omega)).trans hr
  have b2 : Below w1.heap.size w1 w2 := by rw [hw2]; exact (Below.refl _ _).alloc (Nat.le_refl _) _
  have B2 := Lib.hid (show Below W.heap.size W w2 from B1.out.trans ⟨b2.os, b2.tape, b2.output, b2.size, fun k hk => b2.block k (by omega)⟩)
  have hs2 : w2.heap.size = w1.heap.size + 1 := by rw [hw2]; simp
  have P2 := Lib.hid (hP.out.below b2)
  have m2 := Lib.hid (show Mx w2 by
    obtain ⟨m, hm⟩ := HM.out
    exact ⟨m, (World.cell?_of_block (B2.out.block _ hml)).trans hm⟩)
  rw [← hw2]
  clear hw2 hr hB b2 hP hsz
  have y0 : w2.cell? ⟨w1.heap.size, 0, none⟩ = some (.int .i64 C) := by unfold World.cell?; rw [hF]; rfl
  have y1 : w2.cell? ⟨w1.heap.size, 1, none⟩ = some (.int .i64 Pp) := by unfold World.cell?; rw [hF]; rfl
  have r0 : w2.cell? ⟨W.heap.size, 0, none⟩ = some (.int .i64 0) := by unfold World.cell?; rw [hR]; rfl
  have r1 : w2.cell? ⟨W.heap.size, 1, none⟩ = some (.int .i64 0) := by unfold World.cell?; rw [hR]; rfl
  have g0 : ∀ j, w2.frozen? ⟨W.heap.size, j, none⟩ = false := fun j => by unfold World.frozen?; rw [hR]; rfl
  have HR := Lib.hid hR
  clear hF hR
  go_wp2_with fail
  refine (is_any C Pp w2).mono ?_; rintro e w3 ⟨rfl, hb⟩
  have hRG : W.heap.size ≠ G := by omega
  have P3 := Lib.hid (P2.out.below hb)
  have m3 := Lib.hid (m2.out.grown (gb_below (some G) hb) (show G ≠ 1 by omega))
  have z0 := keepCell hb y0
  have z1 := keepCell hb y1
  have HR3 := Lib.hid ((hb.block W.heap.size (by omega)).trans HR.out)
  have B3 := Lib.hid (below_of_gb B2.out (gb_below (some G) hb) (show W.heap.size ≤ G by omega))
  have q0 := keepCell hb r0
  have q1 := keepCell hb r1
  have p0 : ∀ j, w3.frozen? ⟨W.heap.size, j, none⟩ = false := fun j => by unfold World.frozen?; rw [HR3.out]; rfl
  have hGs := P3.out.lt
  clear hb y0 y1 r0 r1 g0 HR B2 P2 m2 B1
  by_cases hc0 : C = 0
  · subst hc0
    go_wp2_with fail
    clear z0 z1 q0 q1 p0
    obtain ⟨J, hJ⟩ : ∃ J, tloopF s.size 10 [] ⟨0, -1, rl s⟩ = J := ⟨_, rfl⟩
    rw [hJ] at T1 T2
    have HJ := Lib.hid hJ.symm
    clear hJ
    go_loopw [6] (fun v wr => TpR J G s.size w3 ⟨0, -1, rl s⟩ v wr) (fun v _ => 17 - lenOf v)
    case atStart => exact ⟨lv, _, [], P3, Lib.hid (gb_refl w3 (some G)), Lib.hid (Tm0.refl _), Lib.hid (ownY_nil _ _), Nat.zero_le _, rfl, Lib.hid fun _ => ⟨Nat.zero_le _, fun t h => by simp at h, awY_nil _ _ _⟩, HJ⟩
    case round =>
      clear P3 HJ
      obtain ⟨lv4, τ4, l, h4, g4, T4, O4, hl9, hlo, B4, HJ⟩ := hrel
      obtain ⟨a4, cap4, rfl⟩ := O4.out.len
      have A4 := Lib.hid (T4.out.1 HA.out)
      have hgs := g4.out.size
      obtain ⟨bd, hbd⟩ : ∃ b, τ4.bad = b := ⟨_, rfl⟩
      go_wp2_with fail
      refine (stop_any h4.out).mono ?_; rintro e w5 ⟨rfl, hb⟩
      have h5 := Lib.hid (h4.out.below hb)
      have g5 := Lib.hid (gb_below (some G) hb)
      clear hb
      rw [hbd]
      by_cases hc : τ4.c = 0
      · obtain rfl : bd = false := by rw [← hbd]; exact bad_no hc
        have HC := Lib.hid hc
        obtain ⟨aa, cc, rfl, _⟩ := h5.out.cap
        have x0 := h5.out.c0
        by_cases hn : 0 < τ4.l.length
        · have d0 : (0 : Int) < (τ4.l.length : Int) := by omega
          have hl8 := (B4.out hc).1
          have h10 : 10 - l.length = 9 - l.length + 1 := by omega
          have HJ := Lib.hid (show J = tloopF s.size (10 - (l.length + 1)) (l.map (·.1) ++ [(typsF s.size l.length τ4).1]) (typsF s.size l.length τ4).2 by have q := HJ.out; rw [h10, tloop_next hc hn, List.length_map, show 9 - l.length = 10 - (l.length + 1) by omega] at q; exact q)
          clear h10
          have hGr := h4.out.lt
          go_upto_region 6 with fail
          go_cut [35] (fun v wx => ∃ b : Bool, v = .bool b ∧ Hid (∃ lv, PS G s.size lv τ4 wx) ∧ Hid (wr.grownBy wx (some G)) ∧ Hid (b = decide (txt τ4 = ⟨#[115, 116, 114, 117, 99, 116]⟩ ∧ 8 ≤ l.length)))
          case first =>
            go_wp2_with fail
            refine (text_any h5.out).mono ?_; rintro e w6 ⟨rfl, hb⟩
            have h6 := Lib.hid (show ∃ lv, PS G s.size lv τ4 w6 from ⟨_, h5.out.below hb⟩)
            have g6 := Lib.hid (gb_trans g5.out (gb_below (some G) hb))
            obtain ⟨u, hu⟩ : ∃ u, txt τ4 = u := ⟨_, rfl⟩
            rw [hu]
            clear hb
            by_cases c1 : u = ⟨#[115, 116, 114, 117, 99, 116]⟩
            · have e1 : (u.toList == [115, 116, 114, 117, 99, 116]) = true := tl_yes (a := #[115, 116, 114, 117, 99, 116]) c1
              have HU := Lib.hid (hu.trans c1)
              clear c1 hu
              by_cases c2 : 8 ≤ l.length
              · have d2 : (8 : Int) ≤ (l.length : Int) := by omega
                go_wp2_with fail
                go_meet
                exact ⟨true, by first | rfl | simp [d2], h6, g6, Lib.hid (decide_eq_true ⟨HU.out, c2⟩).symm⟩
              · have d2 : (l.length : Int) < 8 := by omega
                go_wp2_with fail
                go_meet
                exact ⟨false, by first | rfl | (simp; omega), h6, g6, Lib.hid (decide_eq_false (fun h => c2 h.2)).symm⟩
            · have e1 : (u.toList == [115, 116, 114, 117, 99, 116]) = false := tl_no (a := #[115, 116, 114, 117, 99, 116]) c1
              have HU := Lib.hid (show txt τ4 ≠ ⟨#[115, 116, 114, 117, 99, 116]⟩ by rw [hu]; exact c1)
              clear c1 hu
              go_wp2_with fail
              go_meet
              exact ⟨false, rfl, h6, g6, Lib.hid (decide_eq_false (fun h => HU.out h.1)).symm⟩
          case rest =>
            obtain ⟨b, rfl, h6, g6, B6⟩ := hcut
            clear h5 g5 x0
            go_upto_if 35 with fail
            go_cut [] (fun wx => ∃ (lv : Value) (τ : Ey), Hid (PS G s.size lv τ wx) ∧ Hid (wr.grownBy wx (some G)) ∧ Hid (τ = headF8 s.size l.length τ4))
            case first =>
              obtain ⟨lv6, hp6⟩ := h6.out
              have H6 := Lib.hid hp6
              clear hp6 h6
              cases b with
              | true =>
                have O1 := Lib.hid (show wrong τ4 4 (pos s.size τ4 : Nat) = headF8 s.size l.length τ4 from (if_pos (of_decide_eq_true B6.out.symm)).symm)
                go_wp2_with fail
                refine (place_any H6.out).mono ?_; rintro e w7 ⟨rfl, hb⟩
                have h7 := Lib.hid (H6.out.below hb)
                have g7 := Lib.hid (gb_trans g6.out (gb_below (some G) hb))
                generalize pos s.size τ4 = kp at *
                clear hb
                go_wp2_with fail
                refine (wrong_any h7.out 4 (kp : Nat)).mono ?_; rintro e w8 ⟨rfl, ⟨lv8, hp⟩, hg⟩
                have h8 := Lib.hid hp
                have g8 := Lib.hid (gb_trans g7.out hg)
                clear hp hg
                go_wp2_with fail
                go_meet
                exact ⟨lv8, _, h8, g8, O1⟩
              | false =>
                go_wp2_with fail
                go_meet
                exact ⟨lv6, τ4, H6, g6, Lib.hid (if_neg (of_decide_eq_false B6.out.symm)).symm⟩
            case rest =>
              clear h6 g6 B6
              obtain ⟨lv6, τ6, h6, g6, O6⟩ := hcut
              have HJ := Lib.hid (show J = tloopF s.size (10 - (l.length + 1)) (l.map (·.1) ++ [(typF s.size (pos s.size (must s.size τ6 ⟨#[115, 116, 114, 117, 99, 116]⟩)) (nameF s.size (must s.size τ6 ⟨#[115, 116, 114, 117, 99, 116]⟩))).1]) (typF s.size (pos s.size (must s.size τ6 ⟨#[115, 116, 114, 117, 99, 116]⟩)) (nameF s.size (must s.size τ6 ⟨#[115, 116, 114, 117, 99, 116]⟩))).2 by rw [O6.out]; exact HJ.out)
              have T6 := Lib.hid (show Tm0 τ4 τ6 by rw [O6.out]; exact ite_0 (wrong_0 _ _ _))
              have B6 := Lib.hid (show τ6.c = 0 → txt τ6 = ⟨#[115, 116, 114, 117, 99, 116]⟩ → l.length ≤ 7 from fun ec e => by
                by_cases hh : txt τ4 = ⟨#[115, 116, 114, 117, 99, 116]⟩ ∧ 8 ≤ l.length
                · rw [O6.out, headF8, if_pos hh] at ec
                  exact absurd ec (wrong_bad _ _ _ (by decide))
                · rw [O6.out, headF8, if_neg hh] at e
                  exact Nat.le_of_lt_succ (Nat.lt_of_not_le fun h => hh ⟨e, h⟩))
              clear O6
              go_wp2_with fail
              refine (must_any h6.out ⟨#[115, 116, 114, 117, 99, 116]⟩ (by decide)).mono ?_; rintro e w7 ⟨rfl, ⟨lv7, hp⟩, hg⟩
              have h7 := Lib.hid hp
              have g7 := Lib.hid (gb_trans g6.out hg)
              have T7 := Lib.hid (T6.out.trans (must_0 s.size τ6 ⟨#[115, 116, 114, 117, 99, 116]⟩))
              have B7 := Lib.hid (show (must s.size τ6 ⟨#[115, 116, 114, 117, 99, 116]⟩).c = 0 → l.length ≤ 7 from fun ec => by
                obtain ⟨m1, m2, _⟩ := must_got (by decide) ec
                exact B6.out m2 m1)
              generalize must s.size τ6 ⟨#[115, 116, 114, 117, 99, 116]⟩ = τ7 at *
              have A7 := Lib.hid (T7.out.1 A4.out)
              clear hp hg h6 g6 T6 B6
              go_wp2_with fail
              refine (place_any h7.out).mono ?_; rintro e w8 ⟨rfl, hb⟩
              have h8 := Lib.hid (h7.out.below hb)
              have g8 := Lib.hid (gb_trans g7.out (gb_below (some G) hb))
              obtain ⟨kp, hkp⟩ : ∃ k, pos s.size τ7 = k := ⟨_, rfl⟩
              rw [hkp]
              have HJ := Lib.hid (show J = tloopF s.size (10 - (l.length + 1)) (l.map (·.1) ++ [(typF s.size kp (nameF s.size τ7)).1]) (typF s.size kp (nameF s.size τ7)).2 by rw [← hkp]; exact HJ.out)
              clear hb h7 g7 hkp
              go_upto_region 10 with fail
              have S9 := Lib.hid (show YS wr G s.size w8.heap.size lv7 τ7 [.string ⟨#[]⟩, .int .i64 (kp : Nat), .slice none 0 0] (w8.alloc (.cells #[.string ⟨#[]⟩, .int .i64 (kp : Nat), .slice none 0 0] 122)) from
                ⟨h8.out.below ((Below.refl _ _).alloc (Nat.le_refl _) _), gb_trans g8.out (gb_below _ ((Below.refl _ _).alloc (Nat.le_refl _) _)), heap_alloc_new _ _, g8.out.size, hGr⟩)
              have hX9 : w8.heap.size < (w8.alloc (.cells #[.string ⟨#[]⟩, .int .i64 (kp : Nat), .slice none 0 0] 122)).heap.size := by simp
              generalize w8.alloc (.cells #[.string ⟨#[]⟩, .int .i64 (kp : Nat), .slice none 0 0] 122) = w9 at *
              generalize w8.heap.size = X at *
              clear h8 g8
              have M9 := Lib.hid (m3.out.grown (gb_trans g4.out S9.out.gb) (show G ≠ 1 by omega))
              go_wp2_with fail
              refine (name_any S9.out.ps A7.out M9.out (by omega)).mono ?_; rintro e w10 ⟨rfl, hst⟩
              obtain ⟨lv10, hn10⟩ := S9.out.step hst
              have S10 := Lib.hid hn10
              have hX10 := Nat.lt_of_lt_of_le hX9 hst.2.size
              have U10 := Lib.hid (name_0 s.size τ7)
              have Z10 := Lib.hid (name_sz (E := s.size) A7.out)
              have A10 := Lib.hid ((name_0 s.size τ7).1 A7.out)
              generalize nameF s.size τ7 = r10 at *
              obtain ⟨n10, τ10⟩ := r10
              have HJ := Lib.hid (show J = tloopF s.size (10 - (l.length + 1)) (l.map (·.1) ++ [⟨n10, kp, (blkF (τ10.l.length + 1) s.size 1 τ10).1⟩]) (blkF (τ10.l.length + 1) s.size 1 τ10).2 from HJ.out)
              simp only at S10 U10 Z10 A10
              clear hst hn10 S9 M9
              have y0 : w10.cell? ⟨X, 0, none⟩ = some (.string ⟨#[]⟩) := S10.out.bx.cell 0
              have f0 := S10.out.bx.free 0
              go_upto_region 11 with fail
              have S11 := Lib.hid (S10.out.set 0 (.string n10))
              have hX11 : X < (w10.setCell ⟨X, 0, none⟩ (.string n10)).heap.size := by simpa [World.setCell] using hX10
              clear S10 y0 f0
              generalize w10.setCell ⟨X, 0, none⟩ (.string n10) = w11 at *
              have hg11 := gb_trans g4.out S11.out.gb
              have few10 : τ10.l.length ≤ 4000 := by have q1 := T4.out.2.1; have q2 := T7.out.2.1; have q3 := U10.out.2.1; have q4 := rl_few s; simp only at q1 q2 q3; omega
              have hB := Lib.hid (block_ok (τ10.l.length + 1) G s.size lv10 τ10 w11 1 ⟨S11.out.ps, A10.out, hs, m3.out.grown hg11 (by omega), by have := hg11.size; omega, by omega, few10⟩ (by omega) (fun _ => Nat.lt_succ_self _))
              have hB : Hid (Calls Tryz.prog 69 #[.pointer (some ⟨G, 0, none⟩), .int .i64 1] w11 (BkP (blkF (τ10.l.length + 1) s.size 1 τ10) G s.size τ10 w11)) := hB
              clear hg11
              go_wp2_with fail
              refine (hB.out).mono ?_; rintro e w12 ⟨τ12, l12, v12, rfl, hst, ht12, ⟨ai, mi, ci, rfl⟩, hx12, hj12⟩
              have HJ := Lib.hid (show J = tloopF s.size (10 - (l.length + 1)) (l.map (·.1) ++ [⟨n10, kp, l12⟩]) τ12 by have q := HJ.out; rw [hj12] at q; exact q)
              obtain ⟨lv12, hn12⟩ := S11.out.step hst
              have S12 := Lib.hid hn12
              have U12 := Lib.hid (U10.out.trans ht12)
              have X12 := Lib.hid hx12
              clear hst hn12 ht12 hx12 hj12 S11 hB
              have y2 : w12.cell? ⟨X, 2, none⟩ = some (.slice none 0 0) := S12.out.bx.cell 2
              have f2 := S12.out.bx.free 2
              go_upto_region 12 with fail
              have S13 := Lib.hid (S12.out.set 2 (.slice ai mi ci))
              have X13 := Lib.hid (fun ec => let ⟨a, b, c, d⟩ := X12.out ec; (⟨⟨b, by omega⟩, c, Fw.low (Fw.later d (by simp [World.setCell]) fun k h1 _ => Below.heap_setCell _ _ _ _ (show k ≠ X by omega)) (Nat.le_trans S12.out.hX (Nat.le_of_lt hX11))⟩ : (l12.length ≤ 16 ∧ cl l12 ≤ 4000) ∧ WfL l12 ∧ ItsF wr.heap.size (w12.setCell ⟨X, 2, none⟩ (.slice ai mi ci)) l12 (.slice ai mi ci)))
              clear S12 X12 y2 f2
              generalize w12.setCell ⟨X, 2, none⟩ (.slice ai mi ci) = w13 at *
              have y0 : w13.cell? ⟨X, 0, none⟩ = some (.string n10) := S13.out.bx.cell 0
              have y1 : w13.cell? ⟨X, 1, none⟩ = some (.int .i64 (kp : Nat)) := S13.out.bx.cell 1
              have y2 : w13.cell? ⟨X, 2, none⟩ = some (.slice ai mi ci) := S13.out.bx.cell 2
              have hne : (Value.slice a4 l.length cap4).ownBlock ≠ some G := by
                intro e
                have := (World.ownsRow.lt O4.out G e).1
                omega
              have O13 := Lib.hid (O4.out.grown S13.out.gb hne)
              have s13 := S13.out.gb.size
              go_wp2_with (at_builtin; refine ownY_append1 rfl _ _ rfl w3.heap.size (.slice a4 l.length cap4) l rfl (O13.out.alloc _) _ 1 (⟨n10, kp, l12⟩, .slice ai mi ci) rfl (heap_alloc_new _ _) rfl (by omega) (by simp; omega) ?_; intro v8 w14 ho8 hg8 hb8 hat8; have O8 := Lib.hid ho8; have G8 := Lib.hid hg8; have B8 := Lib.hid hb8; have AT8 := Lib.hid hat8; clear ho8 hg8 hb8 hat8)
              obtain ⟨a8, cap8, rfl⟩ := O8.out.len
              have hb13 := Lib.hid ((Below.refl w13.heap.size w13).alloc (Nat.le_refl _) (.cells #[.string n10, .int .i64 (kp : Nat), .slice ai mi ci] 122))
              have p13 := Lib.hid (S13.out.ps.below hb13.out)
              have g13 := Lib.hid (gb_trans (gb_trans g4.out S13.out.gb) (gb_below (some G) hb13.out))
              have hp8 := ps_keep p13.out (fun k hk => B8.out.block k (by omega)) (Nat.lt_of_lt_of_le p13.out.lt B8.out.size)
              refine ⟨⟨lv12, τ12, _, Lib.hid hp8, Lib.hid (gb_low g13.out B8.out), Lib.hid (T4.out.trans (T7.out.trans U12.out)), O8, by simp; omega, by simp [lenOf], Lib.hid fun ec => ?_, Lib.hid (by rw [HJ.out]; simp)⟩, ?_⟩
              · obtain ⟨x1, x2, x3⟩ := X13.out ec
                have ec7 : τ7.c = 0 := by
                  by_cases h : τ7.c = 0
                  · exact h
                  · rw [U12.out.2.2 h] at ec; exact absurd ec h
                refine ⟨by have := B7.out ec7; simp; omega, fun t ht => ?_, ?_⟩
                · rcases List.mem_append.1 ht with ht | ht
                  · exact (B4.out HC.out).2.1 t ht
                  · rw [List.mem_singleton] at ht; subst ht
                    exact ⟨x2, x1.1, Z10.out, x1.2⟩
                · exact awY_next (B4.out HC.out).2.2 x3 (fun k e => (World.ownsRow.lt O4.out k e).2) hgs S13.out.gb hGs hb13.out G8.out AT8.out
              · simp only [lenOf, List.length_append, List.length_singleton]
                omega
        · have d0 : ¬ (0 : Int) < (τ4.l.length : Int) := by omega
          have d1 : τ4.l.length = 0 := by omega
          go_wp2_with fail
          refine (stop_any h5.out).mono ?_; rintro e w6 ⟨rfl, hb⟩
          have g6 := Lib.hid (gb_trans g5.out (gb_below (some G) hb))
          rw [hbd]
          clear hb
          go_wp2_with fail
          refine (good_any w6).mono ?_; rintro e w7 ⟨rfl, hb⟩
          have g7 := Lib.hid (gb_trans g6.out (gb_below (some G) hb))
          clear hb
          have hR6 := (g7.out.block W.heap.size (by omega) (by simp; omega)).trans ((g4.out.block W.heap.size (by omega) (by simp; omega)).trans HR3.out)
          have r0 : w7.cell? ⟨W.heap.size, 0, none⟩ = some (.int .i64 0) := by unfold World.cell?; rw [hR6]; rfl
          have r1 : w7.cell? ⟨W.heap.size, 1, none⟩ = some (.int .i64 0) := by unfold World.cell?; rw [hR6]; rfl
          have g0 : ∀ j, w7.frozen? ⟨W.heap.size, j, none⟩ = false := fun j => by unfold World.frozen?; rw [hR6]; rfl
          have hne : (Value.slice a4 l.length cap4).ownBlock ≠ some G := by
            intro e
            have := (World.ownsRow.lt O4.out G e).1
            omega
          obtain ⟨x1, x2, x3⟩ := B4.out hc
          have HRR := Lib.hid (T2.out (by trivial) J rfl (by rw [HJ.out, tloop_stop (.inr d1)]; exact hc))
          have HRR := Lib.hid (show R = (l.map (·.1), 0, -1) by rw [HRR.out, HJ.out, tloop_stop (.inr d1)])
          have HT := Lib.hid (tys_of (O4.out.grown g7.out hne) (x3.grown g7.out hGs))
          have X1 := Lib.hid x1
          have X2 := Lib.hid x2
          clear hR6 x1 x2 x3
          go_wp2_with fail
          refine bodyPost_ret (tp_results _ _ W.heap.size (.int .i64 0) (.int .i64 (-1)) rfl (by go_simp) (by go_simp)) rfl ?_
          rw [HRR.out]
          refine ⟨_, rfl, below_set (below_set (below_of_gb (below_of_gb B3.out g4.out (by omega)) g7.out (by omega)) (Nat.le_refl _)) (Nat.le_refl _), ⟨_, _, _, rfl⟩, ?_, fun _ => ⟨by simpa using X1.out, fun t ht => ?_⟩⟩
          rotate_left
          · obtain ⟨q, hq, rfl⟩ := List.mem_map.1 ht
            exact X2.out q hq
          · exact Fw.low (Fw.later HT.out (by simp [World.setCell]) fun k h1 _ => (Below.heap_setCell _ _ _ _ (show k ≠ W.heap.size by omega)).trans (Below.heap_setCell _ _ _ _ (show k ≠ W.heap.size by omega))) (by omega)
      · obtain rfl : bd = true := by rw [← hbd]; exact bad_yes hc
        go_wp2_with fail
        refine (stop_any h5.out).mono ?_; rintro e w6 ⟨rfl, hb⟩
        have h6 := Lib.hid (h5.out.below hb)
        have g6 := Lib.hid (gb_trans g5.out (gb_below (some G) hb))
        rw [hbd]
        clear hb
        have c2 := h6.out.c2
        have c3 := h6.out.c3
        have hR6 := (g6.out.block W.heap.size (by omega) (by simp; omega)).trans ((g4.out.block W.heap.size (by omega) (by simp; omega)).trans HR3.out)
        have r0 : w6.cell? ⟨W.heap.size, 0, none⟩ = some (.int .i64 0) := by unfold World.cell?; rw [hR6]; rfl
        have r1 : w6.cell? ⟨W.heap.size, 1, none⟩ = some (.int .i64 0) := by unfold World.cell?; rw [hR6]; rfl
        have g0 : ∀ j, w6.frozen? ⟨W.heap.size, j, none⟩ = false := fun j => by unfold World.frozen?; rw [hR6]; rfl
        have HRR := Lib.hid (T1.out (by trivial) J rfl (by rw [HJ.out, tloop_stop (.inl hc)]; exact hc))
        have HRR := Lib.hid (show R = ([], τ4.c, τ4.a) by rw [HRR.out, HJ.out, tloop_stop (.inl hc)])
        clear hR6
        go_upto_region 14 with fail
        go_region
        all_goals
          go_wp2_with fail
          refine bodyPost_ret (tp_results _ _ W.heap.size (.int .i64 τ4.c) (.int .i64 τ4.a) rfl (by go_simp) (by go_simp)) rfl ?_
          rw [HRR.out]
          refine ⟨_, rfl, below_set (below_set (Below.drew (below_of_gb (below_of_gb B3.out g4.out (by omega)) g6.out (by omega))) (Nat.le_refl _)) (Nat.le_refl _), ⟨_, _, _, rfl⟩, tysF_nil _ _, fun h => absurd h hc⟩
  · have hcb : (C == 0) = false := by simpa using hc0
    go_upto_region 3 with fail
    go_region
    all_goals
      go_wp2_with fail
      refine bodyPost_ret (tp_results _ _ W.heap.size (.int .i64 C) (.int .i64 Pp) rfl (by go_simp) (by go_simp)) rfl ?_
      rw [T0.out hc0]
      exact ⟨_, rfl, below_set (below_set (Below.drew B3.out) (Nat.le_refl _)) (Nat.le_refl _), ⟨_, _, _, rfl⟩, tysF_nil _ _, fun h => absurd h hc0⟩
theorem tmpl_any (s : ByteArray) (hs : s.size ≤ 4000) (hf : s.size ≤ 900 ∨ 3000 < s.size) (hM : Mx W) (hml : 1 < W.heap.size) : Calls Tryz.prog 30 #[.string s] W (TpP W) :=
  (tmpl_strong s hs hf hM hml).mono fun _ _ ⟨v, e, hb, hv, ht, hw⟩ => ⟨v, (tmplF s).1, (tmplF s).2.1, (tmplF s).2.2, e, hb, hv, fun ec => ⟨(hw ec).1, (hw ec).2, ht⟩⟩
end
end Go.Proofs.YtkopjmofdnlplaaGreatDoor.Tm
