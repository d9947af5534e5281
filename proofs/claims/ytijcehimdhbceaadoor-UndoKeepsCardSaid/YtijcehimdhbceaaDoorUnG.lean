/-
  PROVED HERE: the contract of undo's Go. Conditions: as each theorem states.
-/
import Derived.Test.YtijcehimdhbceaaDoorUnF
namespace Go.Proofs.YtijcehimdhbceaaDoor.Un
open Go.RowKit
/-- The states with other ways down. -/
def withD (l : List St) (D : List Int) : List St := List.zipWith (fun e d => { e with down := d }) l D
theorem withD_len (l : List St) (D : List Int) (h : D.length = l.length) : (withD l D).length = l.length := by unfold withD; rw [List.length_zipWith, h, Nat.min_self]
theorem withD_at (l : List St) (D : List Int) (j : Nat) (h1 : j < (withD l D).length) (h2 : j < l.length) (h3 : j < D.length) : (withD l D)[j] = { l[j] with down := D[j] } := by
  simp [withD]
theorem withD_same (l : List St) : withD l (l.map St.down) = l := by
  apply List.ext_getElem
  · rw [withD_len _ _ (by simp)]
  · intro i h1 h2
    rw [withD_at l _ i h1 h2 (by simp; exact h2)]
    simp
theorem withD_set (l : List St) (D : List Int) (hl : D.length = l.length) (p : Nat) (hp : p < l.length) (x : Int) (h1 : p < (withD l D).length) : (withD l D).set p { (withD l D)[p] with down := x } = withD l (D.set p x) := by
  apply List.ext_getElem
  · rw [List.length_set, withD_len _ _ hl, withD_len _ _ (by rw [List.length_set]; exact hl)]
  · intro i h2 h3
    have hi : i < l.length := by rw [withD_len _ _ (by rw [List.length_set]; exact hl)] at h3; exact h3
    rw [withD_at l (D.set p x) i h3 hi (by rw [List.length_set]; omega)]
    rw [List.getElem_set]
    split
    · rename_i e
      subst e
      rw [withD_at l D p h1 hp (by omega)]
      simp
    · rename_i e
      rw [withD_at l D i (by rw [withD_len _ _ hl]; exact hi) hi (by omega), List.getElem_set_ne e]
theorem withD_up (l : List St) (D : List Int) (hl : D.length = l.length) (j : Nat) (h1 : j < (withD l D).length) (h2 : j < l.length) : (withD l D)[j].up = l[j].up := by
  rw [withD_at l D j h1 h2 (by omega)]
set_option maxRecDepth 100000 in
set_option maxHeartbeats 1000000 in
theorem go_no (w : World) (g b cap : Nat) (l : List St) (now : Nat) (n : Int) (hD : PT w g b cap l now) (hn : n < 0 ∨ (l.length : Int) ≤ n) : Calls Tryd.prog 21 #[.pointer (some ⟨g, 0, none⟩), .int .i64 n] w (UnP g b cap w (.iface 24 (.int .i64 2)) l now) := by
  have c0 := hD.c0
  have DH := Lib.hid hD
  clear hD
  rcases hn with h | h
  · go_enter Tryd.func21, Tryd.ntmps21
    go_wp2_with fail
    go_ret
    exact ⟨rfl, DH.out, Keeps.refl _ _⟩
  · have h0 : 0 ≤ n := by omega
    go_enter Tryd.func21, Tryd.ntmps21
    go_wp2_with fail
    go_ret
    exact ⟨rfl, DH.out, Keeps.refl _ _⟩
def GoP (g b cap : Nat) (l : List St) (up : List Int) (n : Nat) (w : World) (e : Ending) (w' : World) : Prop :=
  ∃ (k : Nat) (D : List Int), e = .returned .nilIface ∧ PT w' g b cap (withD l D) n ∧ (k : Int) ∈ way up n ∧ up.getD k (-1) < 0 ∧ Gone up (l.map St.down) n k D ∧ Keeps (fun k => k = g ∨ k = b) w w'
set_option maxRecDepth 100000 in
set_option maxHeartbeats 2000000 in
theorem go_yes (w : World) (g b cap : Nat) (l : List St) (up : List Int) (now n : Nat) (hD : PT w g b cap l now) (hup : l.map St.up = up) (hu : Ups up) (hn : n < l.length) (_ : l.length ≤ 1000) : Calls Tryd.prog 21 #[.pointer (some ⟨g, 0, none⟩), .int .i64 n] w (GoP g b cap l up n w) := by
  have c0 := hD.c0
  have UH := Lib.hid hu
  have UPH := Lib.hid hup
  have S0 : Hid (Gone up (l.map St.down) n n (l.map St.down)) := Lib.hid (gone_start hu _ n)
  have D0 : Hid (PT w g b cap (withD l (l.map St.down)) now) := Lib.hid (by rw [withD_same]; exact hD)
  have W0 : Hid ((n : Int) ∈ way up n) := Lib.hid (by rw [way_step hu _ (by omega)]; exact List.mem_cons_self)
  have i1 : (0 : Int) ≤ (n : Int) := by omega
  have i2 : (n : Int) < (l.length : Int) := by omega
  have hupl : up.length = l.length := by rw [← hup]; simp
  have hgb : g ≠ b := fun e => hD.ne e.symm
  have hupH := Lib.hid hupl
  clear hD hu hup hupl
  go_enter Tryd.func21, Tryd.ntmps21
  go_wp2_with fail
  go_loopw [5] (fun kv wr => ∃ (k : Nat) (D : List Int), kv = .int .i64 k ∧ Hid ((k : Int) ∈ way up n) ∧ Hid (Gone up (l.map St.down) n k D) ∧ Hid (PT wr g b cap (withD l D) now) ∧ Hid (Keeps (fun k => k = g ∨ k = b) w wr)) (fun kv _ => (intOf kv).toNat)
  case atStart => exact ⟨n, _, rfl, W0, S0, D0, Lib.hid (Keeps.refl _ _)⟩
  case round =>
    obtain ⟨k, D, rfl, hW, hG, hP, hK⟩ := hrel
    have hkn := way_le UH.out (n + 1) _ (by omega) _ hW.out
    have hkl : k < l.length := by omega
    have hDl : D.length = l.length := by rw [hG.out.len]; simp
    have hwl := withD_len l D hDl
    have c0 := hP.out.c0
    rw [hwl] at c0
    have e1 := (hP.out.at_ k (by omega)).2.1
    rw [withD_up l D hDl k (by omega) hkl] at e1
    have hupk : up.getD k (-1) = l[k].up := by rw [← UPH.out, gdl _ _ _ (by simp; exact hkl), List.getElem_map]
    have j1 : (0 : Int) ≤ (k : Int) := by omega
    have j2 : (k : Int) < (l.length : Int) := by omega
    by_cases hc : 0 ≤ l[k].up
    · have hul := (up_lt UH.out k).1
      rw [hupk] at hul
      generalize l[k].up = x at *
      obtain ⟨p, rfl⟩ := Int.eq_ofNat_of_zero_le hc
      have hpk : p < k := by omega
      have hpl : p < l.length := by omega
      obtain ⟨hG2, hW2⟩ := gone_next UH.out (by simp; exact hupH.out.symm) hW.out hupk hG.out
      have e2 := (hP.out.at_ p (by omega)).2.2.1
      have f2 := (hP.out.at_ p (by omega)).2.2.2 (p * 3 + 2)
      have hP2 := hP.out.setDown p (by omega) k
      rw [withD_set l D hDl p hpl k (by omega)] at hP2
      have e1' := (hP2.at_ k (by rw [withD_len _ _ (by rw [List.length_set]; exact hDl)]; exact hkl)).2.1
      rw [withD_up l _ (by rw [List.length_set]; exact hDl) k (by rw [withD_len _ _ (by rw [List.length_set]; exact hDl)]; exact hkl) hkl] at e1'
      have hupk2 : l[k].up = (p : Int) := by rw [← hupk, ← UPH.out, gdl _ _ _ (by simp; exact hkl), List.getElem_map]
      rw [hupk2] at e1'
      have c0' := hP2.c0
      rw [withD_len _ _ (by rw [List.length_set]; exact hDl)] at c0'
      have j3 : (0 : Int) ≤ (p : Int) := by omega
      have j4 : (p : Int) < (l.length : Int) := by omega
      have G2 := Lib.hid hG2
      have W2 := Lib.hid hW2
      have P2 := Lib.hid hP2
      generalize ((withD l D)[p]'(by omega)).down = y at *
      clear hG2 hW2 hP2 hG hW hP hupk hul hwl hDl hupk2
      go_wp2_with fail
      have hK2 : Hid (Keeps (fun k => k = g ∨ k = b) w ((wr.setCell ⟨b, p * 3 + 2, none⟩ (.int .i64 k)).drew)) := Lib.hid ((hK.out.setCell (p := ⟨b, p * 3 + 2, none⟩) (.inl (.inr rfl)) _).drew)
      go_region
      have hP3 := Lib.hid P2.out.drew
      go_wp2_with fail
      go_roundw
      case rel => first | exact ⟨p, D.set p k, rfl, W2, G2, hP3, hK2⟩ | ((repeat apply Exists.intro); exact ⟨⟨p, D.set p k, rfl, W2, G2, hP3, hK2⟩, rfl⟩)
      case measure => simp [intOf]; omega
    · have hc2 : l[k].up < 0 := by omega
      have hE := Lib.hid (show up.getD k (-1) < 0 by rw [hupk]; exact hc2)
      have f1 := hP.out.fz 1
      have c1 := hP.out.c1
      have P2 := Lib.hid (hP.out.setNow n)
      have K2 := Lib.hid (hK.out.setCell (p := ⟨g, 1, none⟩) (.inl (.inl rfl)) (.int .i64 n))
      generalize l[k].up = x at *
      clear hupk hwl hDl hP hK
      go_wp2_with fail
      go_ret
      exact ⟨k, D, rfl, P2.out, hW.out, hE.out, hG.out, K2.out⟩
end Go.Proofs.YtijcehimdhbceaaDoor.Un
