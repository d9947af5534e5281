/-
  PROVED HERE: the contract of the document's mark. Conditions: as each theorem states.
-/
import Derived.Test.YtijcehimdhbceaaDoorUnD
import Derived.BigRegion
namespace Go.Proofs.YtijcehimdhbceaaDoor.Un
open Go.RowKit
theorem DT.drew {w : World} {g b cap d cap' now t : Nat} {up tm : List Int} (h : DT w g b cap d cap' up tm now t) : DT w.drew g b cap d cap' up tm now t := ⟨h.c0, h.c1, h.c2, h.c3, h.fz, h.ow1, h.ow2, h.ne1, h.ne2, h.ne3⟩
theorem DT.below {w w1 : World} {g b cap d cap' now t : Nat} {up tm : List Int} (h : DT w g b cap d cap' up tm now t) (k : Below w.heap.size w w1) : DT w1 g b cap d cap' up tm now t :=
  h.keeps (S := fun _ => False) (Keeps.below k) (fun x => x) (fun x => x) (fun x => x)
theorem set_keeps (w : World) (d k : Nat) (u : Value) : Keeps (fun j => j = d) w (w.setCell ⟨d, k, none⟩ u) := (Keeps.refl (fun j => j = d) w).setCell (p := ⟨d, k, none⟩) (.inl rfl) u
theorem g_other (w : World) (g j j' : Nat) (v : Value) (h : j' ≠ j) : (w.setCell ⟨g, j, none⟩ v).cell? ⟨g, j', none⟩ = w.cell? ⟨g, j', none⟩ := World.cell?_setCell_other _ _ _ _ (by intro hh; simp at hh; try omega)
theorem DT.setT {w : World} {g b cap d cap' now t : Nat} {up tm : List Int} (h : DT w g b cap d cap' up tm now t) (x : Nat) : DT (w.setCell ⟨g, 3, none⟩ (.int .i64 x)) g b cap d cap' up tm now x := by
  have K := set_keeps w g 3 (.int .i64 x)
  exact ⟨(g_other _ _ _ _ _ (by decide)).trans h.c0, (g_other _ _ _ _ _ (by decide)).trans h.c1, (g_other _ _ _ _ _ (by decide)).trans h.c2, World.cell?_setCell_same _ _ _ h.c3, fun j => by rw [frozen?_setCell]; exact h.fz j,
    K.ownsRow (fun j e => by injection e with e; subst e; exact h.ne1) h.ow1, K.ownsRow (fun j e => by injection e with e; subst e; exact h.ne2) h.ow2, h.ne1, h.ne2, h.ne3⟩
theorem DT.setNow {w : World} {g b cap d cap' now t : Nat} {up tm : List Int} (h : DT w g b cap d cap' up tm now t) (x : Nat) : DT (w.setCell ⟨g, 1, none⟩ (.int .i64 x)) g b cap d cap' up tm x t := by
  have K := set_keeps w g 1 (.int .i64 x)
  exact ⟨(g_other _ _ _ _ _ (by decide)).trans h.c0, World.cell?_setCell_same _ _ _ h.c1, (g_other _ _ _ _ _ (by decide)).trans h.c2, (g_other _ _ _ _ _ (by decide)).trans h.c3, fun j => by rw [frozen?_setCell]; exact h.fz j,
    K.ownsRow (fun j e => by injection e with e; subst e; exact h.ne1) h.ow1, K.ownsRow (fun j e => by injection e with e; subst e; exact h.ne2) h.ow2, h.ne1, h.ne2, h.ne3⟩
theorem DT.setTime {w : World} {g b cap d cap' now t : Nat} {up tm : List Int} (h : DT w g b cap d cap' up tm now t) (k : Nat) (x : Int) : DT (w.setCell ⟨d, k, none⟩ (.int .i64 x)) g b cap d cap' up (tm.set k x) now t := by
  have K := set_keeps w d k (.int .i64 x)
  have hgd : ¬ (g = d) := fun e => h.ne2 e.symm
  refine ⟨K.cell (p := ⟨g, 0, none⟩) hgd h.c0, K.cell (p := ⟨g, 1, none⟩) hgd h.c1, ?_, K.cell (p := ⟨g, 3, none⟩) hgd h.c3, fun j => by rw [frozen?_setCell]; exact h.fz j, K.ownsRow (fun j e => by injection e with e; subst e; exact h.ne3) h.ow1, ?_, h.ne1, h.ne2, h.ne3⟩
  · rw [List.length_set]
    exact K.cell (p := ⟨g, 2, none⟩) hgd h.c2
  · have := h.ow2.set k (.int .i64 x)
    rw [i64s_set] at this
    rw [List.length_set]
    exact this
def setAll (tm : List Int) (l : List Int) (x : Int) : List Int := l.foldl (fun tm k => tm.set k.toNat x) tm
theorem setAll_len (l : List Int) (x : Int) : ∀ tm : List Int, (setAll tm l x).length = tm.length := by
  induction l with
  | nil => intro tm; rfl
  | cons k l ih => intro tm; show (setAll (tm.set k.toNat x) l x).length = _; rw [ih, List.length_set]
theorem setAll_snoc (tm l : List Int) (k x : Int) : setAll tm (l ++ [k]) x = (setAll tm l x).set k.toNat x := by simp [setAll]
theorem setAll_at (x : Int) (i : Nat) : ∀ (l tm : List Int), (∀ k ∈ l, 0 ≤ k ∧ k < tm.length) → (setAll tm l x).getD i 0 = if (i : Int) ∈ l then x else tm.getD i 0
  | [], tm, _ => by simp [setAll]
  | k :: l, tm, h => by
    show (setAll (tm.set k.toNat x) l x).getD i 0 = _
    have hk := h k List.mem_cons_self
    rw [setAll_at x i l (tm.set k.toNat x) (fun j hj => by rw [List.length_set]; exact h j (List.mem_cons_of_mem _ hj))]
    by_cases hm : (i : Int) ∈ l
    · rw [if_pos hm, if_pos (List.mem_cons_of_mem _ hm)]
    · rw [if_neg hm]
      by_cases he : (i : Int) = k
      · rw [if_pos (by rw [he]; exact List.mem_cons_self)]
        have : i = k.toNat := by omega
        subst this
        rw [List.getD_eq_getElem?_getD, List.getElem?_set_self (by omega)]
        rfl
      · rw [if_neg (by rw [List.mem_cons]; rintro (e | e); exact he e; exact hm e), List.getD_eq_getElem?_getD, List.getElem?_set_ne (by omega), ← List.getD_eq_getElem?_getD]
def tf (tm : List Int) (i : Nat) : Nat := (tm.getD i 0).toNat
theorem tf_mark (up tm : List Int) (t : Nat) (now : Nat) (h : Ups up) (hn : now < tm.length) : tf (setAll tm (way up now).reverse (t : Int)) = marked up (tf tm) t now := by
  funext i
  unfold tf marked
  rw [setAll_at _ _ _ _ (fun k hk => by
    rw [List.mem_reverse] at hk
    have := way_le h (now + 1) _ (by omega) k hk
    omega)]
  by_cases hm : (i : Int) ∈ way up now
  · rw [if_pos (List.mem_reverse.2 hm), if_pos hm]; rfl
  · rw [if_neg (fun x => hm (List.mem_reverse.1 x)), if_neg hm]
def MkP (g d : Nat) (w : World) (b cap cap' : Nat) (up tm : List Int) (now t : Nat) (e : Ending) (w' : World) : Prop :=
  e = .returned (.tuple #[]) ∧ DT w' g b cap d cap' up (setAll tm (way up now).reverse ((t + 1 : Nat) : Int)) now (t + 1) ∧ Keeps (fun k => k = g ∨ k = d) w w'
set_option maxRecDepth 100000 in
set_option maxHeartbeats 2000000 in
theorem mark_any (w : World) (g b cap d cap' : Nat) (up tm : List Int) (now t : Nat) (hD : DT w g b cap d cap' up tm now t) (hu : Ups up) (hn : now < up.length) (hl : up.length ≤ 1000) (htl : tm.length = up.length) (ht : t ≤ 1000000) :
    Calls Tryd.prog 36 #[.pointer (some ⟨g, 0, none⟩)] w (MkP g d w b cap cap' up tm now t) := by
  have c3 := hD.c3
  have f3 := hD.fz 3
  have DH := Lib.hid hD
  have UH := Lib.hid hu
  have TL := Lib.hid htl
  have D1 := Lib.hid (hD.setT (t + 1))
  have et : ((t + 1 : Nat) : Int) = (t : Int) + 1 := by omega
  rw [et] at D1
  have K1 : Hid (Keeps (fun k => k = g ∨ k = d) w (w.setCell ⟨g, 3, none⟩ (.int .i64 ((t : Int) + 1)))) := Lib.hid ((Keeps.refl _ w).setCell (p := ⟨g, 3, none⟩) (.inl (.inl rfl)) _)
  clear hD hu htl
  go_enter Tryd.func36, Tryd.ntmps36
  go_wp2_with fail
  refine (docWay_any _ g b cap d cap' up tm now (t + 1) D1.out UH.out hn hl).mono ?_; rintro e w1 ⟨v, rfl, hI, hB⟩
  have D2 := Lib.hid (D1.out.below hB)
  have K2 : Hid (Keeps (fun k => k = g ∨ k = d) w w1) := Lib.hid (K1.out.trans (S' := fun _ => False) (Keeps.below hB) (fun _ x => x.elim))
  have WL : ∀ k ∈ (way up now).reverse, 0 ≤ k ∧ k < (up.length : Int) := fun k hk => by
    rw [List.mem_reverse] at hk
    have := way_le UH.out (now + 1) _ (by omega) k hk
    omega
  have WLH := Lib.hid WL
  have hlw : (way up now).reverse.length ≤ 100000 := by rw [List.length_reverse]; have := way_len up now; omega
  generalize hL : (way up now).reverse = L at *
  have hLH := Lib.hid hL
  clear hL
  have hdl : d < w.heap.size := (DH.out.ow2.lt d rfl).2
  have hgl : g < w.heap.size := World.block_lt_of_cell? w _ DH.out.c0
  have hsz : w.heap.size = (w.setCell ⟨g, 3, none⟩ (.int .i64 ((t : Int) + 1))).heap.size := by simp [World.setCell]
  rw [← hsz] at hI
  obtain ⟨a, c, rfl⟩ := hI.len
  have HI := Lib.hid hI
  rw [i64s_len] at HI
  rw [i64s_len]
  clear c3 f3 D1 K1 hB WL DH et hI hsz
  go_wp2_with fail
  go_loopw [14] (fun i wr => ∃ n : Nat, n ≤ L.length ∧ i = .int .i64 n ∧ Hid (DT wr g b cap d cap' up (setAll tm (L.take n) ((t : Int) + 1)) now (t + 1)) ∧ Hid (Keeps (fun k => k = g ∨ k = d) w wr) ∧ Hid (Own wr w.heap.size 3 (.slice a L.length c) (i64s L))) (fun i _ => L.length - (intOf i).toNat)
  case atStart => exact ⟨0, Nat.zero_le _, rfl, D2, K2, HI⟩
  case round =>
    obtain ⟨n, hnl, rfl, hD, hK, hO⟩ := hrel
    by_cases hlt : n < L.length
    · have hc := hO.out.at_ n (by rw [i64s_len]; exact hlt)
      obtain ⟨gb, rfl, hc⟩ := hc
      have hgb := (hO.out.lt gb rfl).1
      have hkk := WLH.out L[n] (List.getElem_mem hlt)
      have hgl2 : L.getD n 0 = L[n] := gdl L n 0 hlt
      rw [i64s_get, hgl2] at hc
      have hT : L.take (n + 1) = L.take n ++ [L[n]] := (List.take_append_getElem hlt).symm
      have hSet := hD.out.setTime L[n].toNat ((t : Int) + 1)
      rw [← setAll_snoc, ← hT] at hSet
      have e2 := hD.out.c2
      have e3 := hD.out.c3
      have hsl := setAll_len (L.take n) ((t : Int) + 1) tm
      rw [hsl, TL.out] at e2
      have hcd := hD.out.ow2.at_ L[n].toNat (by rw [i64s_len, hsl, TL.out]; omega)
      obtain ⟨gd, egd, hcd⟩ := hcd
      injection egd with egd
      injection egd with egd _ _
      subst egd
      have hfd : ∀ j, wr.frozen? ⟨d, j, none⟩ = false := by
        rcases hD.out.ow2.form with ⟨h0, _⟩ | ⟨g', cap'', h0, _, _, _, hf⟩
        · cases h0
        · injection h0 with h0
          injection h0 with h0
          injection h0 with h0 _ _
          subst h0
          exact hf
      have hcd2 : ∃ y, wr.cell? ⟨d, L[n].toNat, none⟩ = some y := ⟨_, hcd⟩
      clear hcd hT hgl2
      generalize L[n] = k at *
      obtain ⟨y, hcd⟩ := hcd2
      obtain ⟨m, rfl⟩ := Int.eq_ofNat_of_zero_le hkk.1
      rw [Int.toNat_natCast] at hSet hcd
      have hf := hfd m
      have SH := Lib.hid hSet
      have i1 : (0 : Int) ≤ (n : Int) := by omega
      have i2 : (n : Int) < (L.length : Int) := by omega
      have i3 : (0 : Int) ≤ (m : Int) := by omega
      have i4 : (m : Int) < (up.length : Int) := hkk.2
      go_wp2_with fail
      go_region
      have hK2 : Hid (Keeps (fun k => k = g ∨ k = d) w ((wr.setCell ⟨d, m, none⟩ (.int .i64 ((t : Int) + 1))).drew)) := Lib.hid ((hK.out.setCell (p := ⟨d, m, none⟩) (.inl (.inr rfl)) _).drew)
      have hO2 : Hid (Own ((wr.setCell ⟨d, m, none⟩ (.int .i64 ((t : Int) + 1))).drew) w.heap.size 3 (.slice (some ⟨gb, 0, none⟩) L.length c) (i64s L)) := Lib.hid ((set_keeps wr d m _).ownsRow (fun j e => by injection e with e; subst e; intro h; have h' : gb = d := h; omega) hO.out)
      have hD2 := Lib.hid SH.out.drew
      go_wp2_with fail
      go_roundw
      case rel => first | exact ⟨n + 1, by omega, by go_num, hD2, hK2, hO2⟩ | ((repeat apply Exists.intro); exact ⟨⟨n + 1, by omega, by go_num, hD2, hK2, hO2⟩, rfl⟩)
      case measure => simp [intOf]; omega
    · obtain rfl : n = L.length := by omega
      have hD2 := hD.out
      rw [List.take_of_length_le (Nat.le_refl _)] at hD2
      have HD := Lib.hid hD2
      clear hD2
      go_wp2_with fail
      go_end0
      refine ⟨rfl, ?_, hK.out⟩
      rw [hLH.out, show ((t + 1 : Nat) : Int) = (t : Int) + 1 by omega]
      exact HD.out
end Go.Proofs.YtijcehimdhbceaaDoor.Un
