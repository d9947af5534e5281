/-
  PROVED HERE: the contract of motion's Span. Conditions: as each theorem states.
-/
import Derived.Test.YtgkmjkjcdjkffaaDoorMoE
import Derived.Deep.DeepCutAuto
namespace Go.Proofs.YtgkmjkjcdjkffaaDoor.Mo
open Go.RowKit
def spF (L fr tt : Int) : Int := if min tt L ≤ fr then 0 else fr
def spT (L fr tt : Int) : Int := if min tt L ≤ fr then 0 else min tt L
def spC (L fr tt : Int) : Int := if min tt L ≤ fr then 8 else 0
def SpP (F T C : Int) (W : World) (e : Ending) (w' : World) : Prop := ∃ x, e = .returned (.tuple #[.agg #[.int .i64 F, .int .i64 T], x]) ∧ ErrX x C (-1) ∧ Below W.heap.size W w'
theorem span_results (tmps : Array Value) (w : World) (g : Nat) (v0 v1 : Value) (h2 : tmps.getD 4 undef = .pointer (some ⟨g, 0, none⟩)) (c0 : w.cell? ⟨g, 0, none⟩ = some v0) (c1 : w.cell? ⟨g, 1, none⟩ = some v1) :
    (results Tryd.f10 tmps).run Tryd.prog w = .ok (.tuple #[.agg #[v0, v1], tmps.getD 5 undef]) w := by
  have h2' : tmps[4]?.getD undef = .pointer (some ⟨g, 0, none⟩) := by simpa using h2
  simp only [results, Tryd.f10]
  simp [go_sem, h2', c0, c1]
set_option maxRecDepth 100000 in
set_option maxHeartbeats 4000000 in
theorem span_row (reg op : Int) (s : ByteArray) (hs : s.size ≤ 1000) (A : Nat) (hA : A ≤ s.size) (n : Nat) (hn : n ≤ 9999) (arg : ByteArray) (a1 : Option Addr) (n1 c1 : Nat) (mo : Option Nat) (a2 : Option Addr) (n2 c2 : Nat) (fr tt : Int) (hfr : fr = (A : Int) - (A : Int) % 16) (hto : tt = fr + 16 * (max n 1 : Nat)) (W : World) :
    Calls Tryd.prog 10 #[.agg #[.string s, .int .i64 (A : Int), .slice a1 n1 c1, .map mo, .slice a2 n2 c2], .agg #[.int .u8 reg, .int .i64 n, .int .u8 op, .int .u8 op, .string arg]] W (SpP (spF s.size fr tt) (spT s.size fr tt) (spC s.size fr tt) W) := by
  have t16 : ((A : Nat) : Int).tmod 16 = (A : Int) % 16 := Int.tmod_eq_emod_of_nonneg (by omega)
  obtain ⟨k, hk⟩ : ∃ k, max n 1 = k := ⟨_, rfl⟩
  have hmx : max (n : Int) 1 = (k : Int) := by omega
  have hk1 : 1 ≤ k ∧ k ≤ 9999 := by omega
  obtain ⟨hk1, hk2⟩ := hk1
  rw [hk] at hto
  obtain ⟨T, hT⟩ : ∃ T, min tt (s.size : Int) = T := ⟨_, rfl⟩
  unfold spF spT spC
  rw [hT]
  have hfr' := hfr.symm
  have hto' := hto.symm
  have hf0 : 0 ≤ fr ∧ fr ≤ A := by omega
  obtain ⟨hf0, hf1⟩ := hf0
  have ht0 : 0 ≤ tt ∧ tt ≤ 200000 := by omega
  obtain ⟨ht0, ht1⟩ := ht0
  clear hk hfr hto
  by_cases c : T ≤ fr
  · rw [if_pos c, if_pos c, if_pos c]
    go_enter Tryd.func10, Tryd.ntmps10
    go_wp2_with fail
    refine ⟨rfl, _, span_results _ _ (W.heap.size + 1 + 1) (.int .i64 0) (.int .i64 0) rfl ?_ ?_, ⟨_, rfl, .inr (.inl ⟨rfl, rfl⟩), ((((Below.refl _ _).alloc (Nat.le_refl _) _).alloc (by simp) _).alloc (by simp; omega) _).alloc (by simp; omega) _⟩⟩
    · simp [go_sem]
    · simp [go_sem]
  · rw [if_neg c, if_neg c, if_neg c]
    have c' : fr < T := by omega
    clear c
    go_enter Tryd.func10, Tryd.ntmps10
    go_wp2_with fail
    exact ⟨rfl, _, span_results _ _ (W.heap.size + 1 + 1) (.int .i64 fr) (.int .i64 T) rfl (by simp [go_sem]) (by simp [go_sem]), ⟨_, rfl, .inl ⟨rfl, rfl, rfl⟩, ((((Below.refl _ _).alloc (Nat.le_refl _) _).alloc (by simp) _).alloc (by simp; omega) _).alloc (by simp; omega) _⟩⟩
structure SW (W : World) (s : ByteArray) (A fr tt : Int) (w : World) : Prop where
  y0 : w.cell? ⟨W.heap.size, 0, none⟩ = some (.string s)
  y1 : w.cell? ⟨W.heap.size, 1, none⟩ = some (.int .i64 A)
  s0 : w.cell? ⟨W.heap.size + 1 + 1, 0, none⟩ = some (.int .i64 0)
  s1 : w.cell? ⟨W.heap.size + 1 + 1, 1, none⟩ = some (.int .i64 0)
  q0 : w.cell? ⟨W.heap.size + 1 + 1 + 1, 0, none⟩ = some (.int .i64 fr)
  q1 : w.cell? ⟨W.heap.size + 1 + 1 + 1, 1, none⟩ = some (.int .i64 tt)
  k0 : w.frozen? ⟨W.heap.size + 1 + 1, 0, none⟩ = false
  k1 : w.frozen? ⟨W.heap.size + 1 + 1, 1, none⟩ = false
  k2 : w.frozen? ⟨W.heap.size + 1 + 1 + 1, 0, none⟩ = false
  k3 : w.frozen? ⟨W.heap.size + 1 + 1 + 1, 1, none⟩ = false
  bl : Below W.heap.size W w
theorem SW.drew {W : World} {s : ByteArray} {A fr tt : Int} {w : World} (h : SW W s A fr tt w) : SW W s A fr tt w.drew := ⟨h.y0, h.y1, h.s0, h.s1, h.q0, h.q1, h.k0, h.k1, h.k2, h.k3, h.bl.drew⟩
theorem SW.set0 {W : World} {s : ByteArray} {A fr tt : Int} {w : World} (h : SW W s A fr tt w) (v : Int) : SW W s A v tt (w.setCell ⟨W.heap.size + 1 + 1 + 1, 0, none⟩ (.int .i64 v)) := by
  refine ⟨?_, ?_, ?_, ?_, World.cell?_setCell_same _ _ _ h.q0, ?_, ?_, ?_, ?_, ?_, h.bl.setCell (p := ⟨W.heap.size + 1 + 1 + 1, 0, none⟩) (by simp; omega) _⟩
  · rw [World.cell?_setCell_other _ _ _ _ (by simp)]; exact h.y0
  · rw [World.cell?_setCell_other _ _ _ _ (by simp)]; exact h.y1
  · rw [World.cell?_setCell_other _ _ _ _ (by simp)]; exact h.s0
  · rw [World.cell?_setCell_other _ _ _ _ (by simp)]; exact h.s1
  · rw [World.cell?_setCell_other _ _ _ _ (by simp)]; exact h.q1
  · rw [frozen?_setCell]; exact h.k0
  · rw [frozen?_setCell]; exact h.k1
  · rw [frozen?_setCell]; exact h.k2
  · rw [frozen?_setCell]; exact h.k3
theorem SW.set1 {W : World} {s : ByteArray} {A fr tt : Int} {w : World} (h : SW W s A fr tt w) (v : Int) : SW W s A fr v (w.setCell ⟨W.heap.size + 1 + 1 + 1, 1, none⟩ (.int .i64 v)) := by
  refine ⟨?_, ?_, ?_, ?_, ?_, World.cell?_setCell_same _ _ _ h.q1, ?_, ?_, ?_, ?_, h.bl.setCell (p := ⟨W.heap.size + 1 + 1 + 1, 1, none⟩) (by simp; omega) _⟩
  · rw [World.cell?_setCell_other _ _ _ _ (by simp)]; exact h.y0
  · rw [World.cell?_setCell_other _ _ _ _ (by simp)]; exact h.y1
  · rw [World.cell?_setCell_other _ _ _ _ (by simp)]; exact h.s0
  · rw [World.cell?_setCell_other _ _ _ _ (by simp)]; exact h.s1
  · rw [World.cell?_setCell_other _ _ _ _ (by simp)]; exact h.q0
  · rw [frozen?_setCell]; exact h.k0
  · rw [frozen?_setCell]; exact h.k1
  · rw [frozen?_setCell]; exact h.k2
  · rw [frozen?_setCell]; exact h.k3
theorem SW.out {W : World} {s : ByteArray} {A fr tt : Int} {w : World} (h : SW W s A fr tt w) (u v : Int) : ((w.setCell ⟨W.heap.size + 1 + 1, 0, none⟩ (.int .i64 u)).setCell ⟨W.heap.size + 1 + 1, 1, none⟩ (.int .i64 v)).cell? ⟨W.heap.size + 1 + 1, 0, none⟩ = some (.int .i64 u) ∧ ((w.setCell ⟨W.heap.size + 1 + 1, 0, none⟩ (.int .i64 u)).setCell ⟨W.heap.size + 1 + 1, 1, none⟩ (.int .i64 v)).cell? ⟨W.heap.size + 1 + 1, 1, none⟩ = some (.int .i64 v) ∧ Below W.heap.size W ((w.setCell ⟨W.heap.size + 1 + 1, 0, none⟩ (.int .i64 u)).setCell ⟨W.heap.size + 1 + 1, 1, none⟩ (.int .i64 v)) := by
  refine ⟨?_, ?_, (h.bl.setCell (p := ⟨W.heap.size + 1 + 1, 0, none⟩) (by simp; omega) _).setCell (p := ⟨W.heap.size + 1 + 1, 1, none⟩) (by simp; omega) _⟩
  · rw [World.cell?_setCell_other _ _ _ _ (by simp)]; exact World.cell?_setCell_same _ _ _ h.s0
  · exact World.cell?_setCell_same _ _ _ (by rw [World.cell?_setCell_other _ _ _ _ (by simp)]; exact h.s1)
set_option maxRecDepth 100000 in
set_option maxHeartbeats 4000000 in
theorem span_go (reg op mv : Int) (hne : mv ≠ op) (s : ByteArray) (hs : s.size ≤ 1000) (A : Nat) (hA : A ≤ s.size) (n : Nat) (arg : ByteArray) (a1 : Option Addr) (n1 c1 : Nat) (mo : Option Nat) (a2 : Option Addr) (n2 c2 : Nat) (N : Int) (b : Bool) (c : Int) (hN : c = 0 → 0 ≤ N ∧ N ≤ s.size) (W : World)
    (C : ∀ W', Below W.heap.size W W' → Calls Tryd.prog 7 #[.agg #[.string s, .int .i64 (A : Int), .slice a1 n1 c1, .map mo, .slice a2 n2 c2], .int .u8 mv, .int .i64 n, .string arg] W' (GP N b c W')) :
    Calls Tryd.prog 10 #[.agg #[.string s, .int .i64 (A : Int), .slice a1 n1 c1, .map mo, .slice a2 n2 c2], .agg #[.int .u8 reg, .int .i64 n, .int .u8 op, .int .u8 mv, .string arg]] W (SpP (if c = 0 then spF s.size (min (A : Int) N) (max (A : Int) N + if b = true then 1 else 0) else 0) (if c = 0 then spT s.size (min (A : Int) N) (max (A : Int) N + if b = true then 1 else 0) else 0) (if c = 0 then spC s.size (min (A : Int) N) (max (A : Int) N + if b = true then 1 else 0) else c) W) := by
  have hm : (mv == op) = false := by rw [beq_eq_false_iff_ne]; exact hne
  obtain ⟨fr, hfr⟩ : ∃ fr, min (A : Int) N = fr := ⟨_, rfl⟩
  obtain ⟨mx, hmx⟩ : ∃ mx, max (A : Int) N = mx := ⟨_, rfl⟩
  rw [hfr, hmx]
  obtain ⟨F, hF⟩ : ∃ F, (if c = 0 then spF s.size fr (mx + if b = true then 1 else 0) else 0) = F := ⟨_, rfl⟩
  obtain ⟨T, hT⟩ : ∃ T, (if c = 0 then spT s.size fr (mx + if b = true then 1 else 0) else 0) = T := ⟨_, rfl⟩
  obtain ⟨E, hE⟩ : ∃ E, (if c = 0 then spC s.size fr (mx + if b = true then 1 else 0) else c) = E := ⟨_, rfl⟩
  rw [hF, hT, hE]
  have HE := Lib.hid (show _ ∧ _ ∧ _ from ⟨hF, hT, hE⟩)
  clear hF hT hE
  go_enter Tryd.func10, Tryd.ntmps10
  go_wp2_with fail
  obtain ⟨w1, hw1⟩ : ∃ w1, w1 = (((W.alloc (.cells #[.string s, .int .i64 (A : Int), .slice a1 n1 c1, .map mo, .slice a2 n2 c2] 33)).alloc (.cells #[.int .u8 reg, .int .i64 n, .int .u8 op, .int .u8 mv, .string arg] 49)).alloc (.cells #[.int .i64 0, .int .i64 0] 46)).alloc (.cells #[.int .i64 (A : Int), .int .i64 (A : Int)] 46) := ⟨_, rfl⟩
  rw [← hw1]
  have B1 : Hid (Below W.heap.size W w1) := Lib.hid (by rw [hw1]; exact ((((Below.refl _ _).alloc (Nat.le_refl _) _).alloc (by simp) _).alloc (by simp; omega) _).alloc (by simp; omega) _)
  have x1 : w1.cell? ⟨W.heap.size, 1, none⟩ = some (.int .i64 (A : Int)) := by rw [hw1]; simp [go_sem]
  have x0 : w1.cell? ⟨W.heap.size, 0, none⟩ = some (.string s) := by rw [hw1]; simp [go_sem]
  have r0 : w1.cell? ⟨W.heap.size + 1 + 1, 0, none⟩ = some (.int .i64 0) := by rw [hw1]; simp [go_sem]
  have r1 : w1.cell? ⟨W.heap.size + 1 + 1, 1, none⟩ = some (.int .i64 0) := by rw [hw1]; simp [go_sem]
  have p0 : w1.cell? ⟨W.heap.size + 1 + 1 + 1, 0, none⟩ = some (.int .i64 (A : Int)) := by rw [hw1]; simp [go_sem]
  have p1 : w1.cell? ⟨W.heap.size + 1 + 1 + 1, 1, none⟩ = some (.int .i64 (A : Int)) := by rw [hw1]; simp [go_sem]
  have g0 : ∀ j, w1.frozen? ⟨W.heap.size + 1 + 1, j, none⟩ = false := fun j => by rw [hw1]; simp [go_sem]
  have g1 : ∀ j, w1.frozen? ⟨W.heap.size + 1 + 1 + 1, j, none⟩ = false := fun j => by rw [hw1]; simp [go_sem]
  clear hw1
  refine (C _ B1.out).mono ?_; rintro e w2 ⟨x, rfl, hx, h2⟩
  have BW := Lib.hid (B1.out.trans (h2.mono B1.out.size))
  have y1 := keepCell h2 x1
  have y0 := keepCell h2 x0
  have s0 := keepCell h2 r0
  have s1 := keepCell h2 r1
  have q0 := keepCell h2 p0
  have q1 := keepCell h2 p1
  have k0 := keepFree h2 r0 (g0 0)
  have k1 := keepFree h2 r1 (g0 1)
  have k2 := keepFree h2 p0 (g1 0)
  have k3 := keepFree h2 p1 (g1 1)
  clear h2 x1 x0 r0 r1 p0 p1 g0 g1 C
  rcases hx.form with ⟨rfl, rfl⟩ | ⟨hc, rfl⟩
  · obtain ⟨hF, hT, hE⟩ := HE.out
    rw [if_pos rfl] at hF hT hE
    obtain ⟨hN0, hN1⟩ := hN rfl
    clear hx HE hN
    have hfb : 0 ≤ fr ∧ fr ≤ s.size := by omega
    have hmb : 0 ≤ mx ∧ mx ≤ s.size := by omega
    obtain ⟨hf0, hf1⟩ := hfb
    obtain ⟨hm0, hm1⟩ := hmb
    have HS0 : Hid (SW W s A A A w2) := Lib.hid ⟨y0, y1, s0, s1, q0, q1, k0, k1, k2, k3, BW.out⟩
    go_wp2_with fail
    go_cut [] (fun wx => Hid (SW W s A fr mx wx))
    case first =>
      have z1 : ∀ v : Value, (w2.setCell ⟨W.heap.size + 1 + 1 + 1, 0, none⟩ v).cell? ⟨W.heap.size + 1 + 1 + 1, 1, none⟩ = some (.int .i64 (A : Int)) := fun v => by rw [World.cell?_setCell_other _ _ _ _ (by simp)]; exact q1
      have z2 : ∀ v : Value, (w2.setCell ⟨W.heap.size + 1 + 1 + 1, 0, none⟩ v).frozen? ⟨W.heap.size + 1 + 1 + 1, 1, none⟩ = false := fun v => by rw [frozen?_setCell]; exact k3
      have e0 : w2.drew.cell? ⟨W.heap.size, 1, none⟩ = some (.int .i64 (A : Int)) := y1
      have e1 : (w2.setCell ⟨W.heap.size + 1 + 1 + 1, 0, none⟩ (.int .i64 fr)).drew.cell? ⟨W.heap.size, 1, none⟩ = some (.int .i64 (A : Int)) := (HS0.out.set0 fr).y1
      have e2 : ((w2.setCell ⟨W.heap.size + 1 + 1 + 1, 0, none⟩ (.int .i64 fr)).setCell ⟨W.heap.size + 1 + 1 + 1, 1, none⟩ (.int .i64 mx)).drew.cell? ⟨W.heap.size, 1, none⟩ = some (.int .i64 (A : Int)) := ((HS0.out.set0 fr).set1 mx).y1
      go_region_held3 (fun w' => w'.cell? ⟨W.heap.size, 1, none⟩ = some (.int .i64 (A : Int))) (first | exact e0 | exact e1 | exact e2) (fail)
      all_goals
        go_wp2_with fail
        go_meet
        exact Lib.hid (by first | exact ((HS0.out.set0 fr).set1 mx).drew | exact ((HS0.out.drew.set0 fr).set1 mx))
    case rest =>
      have HS := hcut
      clear y0 y1 s0 s1 q0 q1 k0 k1 k2 k3
      have y0 := HS.out.y0
      have y1 := HS.out.y1
      have s0 := HS.out.s0
      have s1 := HS.out.s1
      have q0 := HS.out.q0
      have q1 := HS.out.q1
      have k0 := HS.out.k0
      have k1 := HS.out.k1
      have k2 := HS.out.k2
      have k3 := HS.out.k3
      clear hcut
      cases b with
      | true =>
        go_upto_region 11 with fail
        have H2 := Lib.hid (HS.out.set1 (mx + 1))
        clear y0 y1 s0 s1 q0 q1 k0 k1 k2 k3
        generalize wc.setCell ⟨W.heap.size + 1 + 1 + 1, 1, none⟩ (.int .i64 (mx + 1)) = w3 at *
        have y0 := H2.out.y0
        have y1 := H2.out.y1
        have s0 := H2.out.s0
        have s1 := H2.out.s1
        have q0 := H2.out.q0
        have q1 := H2.out.q1
        have k0 := H2.out.k0
        have k1 := H2.out.k1
        have k2 := H2.out.k2
        have k3 := H2.out.k3
        obtain ⟨TT, hTT⟩ : ∃ TT, min (mx + 1) (s.size : Int) = TT := ⟨_, rfl⟩
        have hF' : spF s.size fr (mx + 1) = F := hF
        have hT' : spT s.size fr (mx + 1) = T := hT
        have hE' : spC s.size fr (mx + 1) = E := hE
        unfold spF at hF'
        unfold spT at hT'
        unfold spC at hE'
        rw [hTT] at hF' hT' hE'
        clear hF hT hE
        go_upto_region 12 with fail
        have H3 := Lib.hid (H2.out.set1 TT)
        clear y0 y1 s0 s1 q0 q1 k0 k1 k2 k3
        generalize w3.setCell ⟨W.heap.size + 1 + 1 + 1, 1, none⟩ (.int .i64 TT) = w4 at *
        have y0 := H3.out.y0
        have y1 := H3.out.y1
        have s0 := H3.out.s0
        have s1 := H3.out.s1
        have q0 := H3.out.q0
        have q1 := H3.out.q1
        have k0 := H3.out.k0
        have k1 := H3.out.k1
        have k2 := H3.out.k2
        have k3 := H3.out.k3
        by_cases c : TT ≤ fr
        · rw [if_pos c] at hF' hT' hE'
          subst hF' hT' hE'
          obtain ⟨o0, o1, o2⟩ := H3.out.out 0 0
          have OO := Lib.hid (show _ ∧ _ ∧ _ from ⟨o0, o1, o2⟩)
          clear o0 o1 o2
          go_wp2_with fail
          exact ⟨rfl, _, span_results _ _ (W.heap.size + 1 + 1) (.int .i64 0) (.int .i64 0) rfl OO.out.1 OO.out.2.1, ⟨_, rfl, .inr (.inl ⟨rfl, rfl⟩), OO.out.2.2⟩⟩
        · rw [if_neg c] at hF' hT' hE'
          subst hF' hT' hE'
          have c' : fr < TT := by omega
          obtain ⟨o0, o1, o2⟩ := H3.out.out fr TT
          have OO := Lib.hid (show _ ∧ _ ∧ _ from ⟨o0, o1, o2⟩)
          clear o0 o1 o2 c
          go_wp2_with fail
          exact ⟨rfl, _, span_results _ _ (W.heap.size + 1 + 1) (.int .i64 fr) (.int .i64 TT) rfl OO.out.1 OO.out.2.1, ⟨_, rfl, .inl ⟨rfl, rfl, rfl⟩, OO.out.2.2⟩⟩
      | false =>
        obtain ⟨w3, hw3⟩ : ∃ w3, wc = w3 := ⟨_, rfl⟩
        subst hw3
        have H2 := HS
        obtain ⟨TT, hTT⟩ : ∃ TT, min (mx) (s.size : Int) = TT := ⟨_, rfl⟩
        have hF' : spF s.size fr mx = F := by rw [← hF, show mx + (if false = true then 1 else 0) = mx by simp]
        have hT' : spT s.size fr mx = T := by rw [← hT, show mx + (if false = true then 1 else 0) = mx by simp]
        have hE' : spC s.size fr mx = E := by rw [← hE, show mx + (if false = true then 1 else 0) = mx by simp]
        unfold spF at hF'
        unfold spT at hT'
        unfold spC at hE'
        rw [hTT] at hF' hT' hE'
        clear hF hT hE
        go_upto_region 12 with fail
        have H3 := Lib.hid (H2.out.set1 TT)
        clear y0 y1 s0 s1 q0 q1 k0 k1 k2 k3
        generalize wc.setCell ⟨W.heap.size + 1 + 1 + 1, 1, none⟩ (.int .i64 TT) = w4 at *
        have y0 := H3.out.y0
        have y1 := H3.out.y1
        have s0 := H3.out.s0
        have s1 := H3.out.s1
        have q0 := H3.out.q0
        have q1 := H3.out.q1
        have k0 := H3.out.k0
        have k1 := H3.out.k1
        have k2 := H3.out.k2
        have k3 := H3.out.k3
        by_cases c : TT ≤ fr
        · rw [if_pos c] at hF' hT' hE'
          subst hF' hT' hE'
          obtain ⟨o0, o1, o2⟩ := H3.out.out 0 0
          have OO := Lib.hid (show _ ∧ _ ∧ _ from ⟨o0, o1, o2⟩)
          clear o0 o1 o2
          go_wp2_with fail
          exact ⟨rfl, _, span_results _ _ (W.heap.size + 1 + 1) (.int .i64 0) (.int .i64 0) rfl OO.out.1 OO.out.2.1, ⟨_, rfl, .inr (.inl ⟨rfl, rfl⟩), OO.out.2.2⟩⟩
        · rw [if_neg c] at hF' hT' hE'
          subst hF' hT' hE'
          have c' : fr < TT := by omega
          obtain ⟨o0, o1, o2⟩ := H3.out.out fr TT
          have OO := Lib.hid (show _ ∧ _ ∧ _ from ⟨o0, o1, o2⟩)
          clear o0 o1 o2 c
          go_wp2_with fail
          exact ⟨rfl, _, span_results _ _ (W.heap.size + 1 + 1) (.int .i64 fr) (.int .i64 TT) rfl OO.out.1 OO.out.2.1, ⟨_, rfl, .inl ⟨rfl, rfl, rfl⟩, OO.out.2.2⟩⟩
  · obtain ⟨hF, hT, hE⟩ := HE.out
    rw [if_neg hc] at hF hT hE
    subst hF hT hE
    have HX := Lib.hid hx
    clear hx HE hN hc
    go_wp2_with fail
    exact ⟨rfl, _, span_results _ _ (W.heap.size + 1 + 1) (.int .i64 0) (.int .i64 0) rfl (by simp [go_sem, s0, s1, k0, k1]) (by simp [go_sem, s0, s1, k0, k1]), ⟨_, rfl, HX.out, ((BW.out.setCell (p := ⟨W.heap.size + 1 + 1, 0, none⟩) (by simp; omega) _).setCell (p := ⟨W.heap.size + 1 + 1, 1, none⟩) (by simp; omega) _)⟩⟩
end Go.Proofs.YtgkmjkjcdjkffaaDoor.Mo
