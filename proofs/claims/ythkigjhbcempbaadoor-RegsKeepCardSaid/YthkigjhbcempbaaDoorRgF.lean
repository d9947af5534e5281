/-
  PROVED HERE: the contracts of the document's Cut and Get, and of regs' Get. Conditions: as each theorem states.
-/
import Derived.Test.YthkigjhbcempbaaDoorRgE
namespace Go.Proofs.YthkigjhbcempbaaDoor.Rg
open Go.RowKit
/-- The nine, from 57 down to c + 1, are their neighbours. -/
def sh (f : Nat → ByteArray) (c : Nat) : Nat → ByteArray := fun k => if c < k ∧ k ≤ 57 then f (k - 1) else f k
theorem sh_top (f : Nat → ByteArray) : sh f 57 = f := by
  funext k
  unfold sh
  rw [if_neg (by omega)]
theorem sh_next (f : Nat → ByteArray) (c : Nat) (h : c + 1 ≤ 57) : upd (sh f (c + 1)) (c + 1) (sh f (c + 1) c) = sh f c := by
  funext k
  unfold upd sh
  by_cases hk : k = c + 1
  · subst hk
    rw [if_pos rfl, if_neg (by omega), if_pos (by omega)]
    rfl
  · rw [if_neg hk]
    by_cases h2 : c + 1 < k ∧ k ≤ 57
    · rw [if_pos h2, if_pos (by omega)]
    · rw [if_neg h2, if_neg (by omega)]
def cutF (f : Nat → ByteArray) (c : Nat) (t : ByteArray) : Nat → ByteArray := if code f c t = 0 then upd (sh (putF f c t) 49) 49 t else putF f c t
def DocCutP (r : Nat) (f : Nat → ByteArray) (n : Nat) (c : Nat) (t : ByteArray) (w : World) (e : Ending) (w' : World) : Prop :=
  e = .returned (.int .i64 (code f c t)) ∧ Mp w' r (cutF f c t) (n + 12) ∧ Keeps (fun k => k = r) w w'
set_option maxRecDepth 100000 in
set_option maxHeartbeats 2000000 in
theorem docCut_any (w : World) (r n : Nat) (f : Nat → ByteArray) (c : Nat) (t : ByteArray) (hM : Mp w r f n) (hc : c < 256) (hf : ∀ k, k < 256 → (f k).size ≤ 10000) (ht : t.size ≤ 10000) :
    Calls Tryd.prog 10 #[.map (some r), .int .u8 c, .string t] w (DocCutP r f n c t w) := by
  have PA := Lib.hid (docPut_any w r n f c t hM hc hf ht)
  unfold DocCutP cutF
  unfold DocPutP at PA
  generalize code f c t = k at *
  generalize putF f c t = F at *
  clear hM hf
  by_cases hk : k = 0
  · subst hk
    rw [if_pos rfl]
    go_enter Tryd.func10, Tryd.ntmps10
    go_wp2_with fail
    refine PA.out.mono ?_; rintro e w1 ⟨rfl, hM1, hK1⟩
    have M0 : Hid (Mp w1 r (sh F 57) (n + 2)) := Lib.hid (by rw [sh_top]; exact hM1)
    have K0 := Lib.hid hK1
    clear hM1 hK1 PA
    go_wp2_with fail
    go_loopw [8] (fun i wr => ∃ d : Nat, 49 ≤ d ∧ d ≤ 57 ∧ i = .int .u8 d ∧ Hid (Mp wr r (sh F d) (n + 2 + (57 - d))) ∧ Hid (Keeps (fun k => k = r) w wr)) (fun i _ => (intOf i).toNat)
    case atStart => exact ⟨57, by omega, by omega, rfl, M0, K0⟩
    case round =>
      obtain ⟨d, hd1, hd2, rfl, hM, hK⟩ := hrel
      by_cases hlt : 49 < d
      · obtain ⟨e, rfl⟩ : ∃ e, d = e + 1 := ⟨d - 1, by omega⟩
        have LK := look_run (P := Tryd.prog) (k := 5) (e := 9) (t := 28) Tryd.underlying5 Tryd.underlying28 zeroStr hM.out e (by omega)
        obtain ⟨w2, e2, m2, k2, _⟩ := update_run (P := Tryd.prog) (k := 5) (e := 9) (t := 28) Tryd.underlying5 Tryd.underlying28 hM.out (e + 1) (by omega) (sh F (e + 1) e)
        rw [sh_next F e (by omega)] at m2
        unfold bk at LK e2
        generalize sh F (e + 1) e = y at *
        have M2 := Lib.hid (m2.mono (show n + 2 + (57 - (e + 1)) + 1 ≤ n + 2 + (57 - e) by omega))
        have K2 := Lib.hid (hK.out.trans k2 (fun _ h => .inl h))
        have ei : ((e + 1 : Nat) : Int) - 1 = (e : Int) := by omega
        have ej : ((e + 1 : Nat) : Int) = (e : Int) + 1 := by omega
        rw [ej] at e2
        clear m2 k2 hM hK
        go_wp2_with fail
        go_roundw
        case rel => first | exact ⟨e, by omega, by omega, by go_num, M2, K2⟩ | ((repeat apply Exists.intro); exact ⟨⟨e, by omega, by omega, by go_num, M2, K2⟩, rfl⟩)
        case measure => first | (simp [intOf]; done) | (simp [intOf]; omega)
      · obtain rfl : d = 49 := by omega
        obtain ⟨w2, e2, m2, k2, _⟩ := update_run (P := Tryd.prog) (k := 5) (e := 9) (t := 28) Tryd.underlying5 Tryd.underlying28 hM.out 49 (by decide) t
        unfold bk at e2
        have e3 : (Instr.mapUpdate 28 (.map (some r)) (.int .u8 49) (.string t)).run Tryd.prog wr = .ok () w2 := e2
        have M2 := Lib.hid (m2.mono (show n + 2 + (57 - 49) + 1 ≤ n + 12 by omega))
        have K2 := Lib.hid (hK.out.trans k2 (fun _ h => .inl h))
        clear m2 k2 hM hK e2
        go_wp2_with fail
        go_ret
        exact ⟨rfl, M2.out, K2.out⟩
  · rw [if_neg hk]
    have hkb : (k != 0) = true := by simpa using hk
    go_enter Tryd.func10, Tryd.ntmps10
    go_wp2_with fail
    refine PA.out.mono ?_; rintro e w1 ⟨rfl, hM1, hK1⟩
    have M0 := Lib.hid hM1
    have K0 := Lib.hid hK1
    clear hM1 hK1 PA
    go_wp2_with fail
    go_ret
    exact ⟨rfl, M0.out.mono (by omega), K0.out⟩
def ok (c : Nat) : Bool := nm c || decide (49 ≤ c ∧ c ≤ 57)
def got (f : Nat → ByteArray) (c : Nat) : ByteArray := if ok c = true then f (low c) else ⟨#[]⟩
def gcode (c : Nat) : Int := if ok c = true then 0 else 5
theorem low_dig (c : Nat) (h : 49 ≤ c ∧ c ≤ 57) : low c = c ∧ nm c = false := by
  have e : low c = c := by unfold low; rw [if_neg (by omega)]
  refine ⟨e, ?_⟩
  unfold nm
  rw [e, decide_eq_false (by omega), decide_eq_false (by omega)]
  rfl
set_option maxRecDepth 100000 in
set_option maxHeartbeats 2000000 in
theorem docGet_any (w : World) (r n : Nat) (f : Nat → ByteArray) (c : Nat) (hM : Mp w r f n) (hc : c < 256) :
    Calls Tryd.prog 11 #[.map (some r), .int .u8 c] w fun e w' => e = .returned (.tuple #[.string (got f c), .int .i64 (gcode c)]) ∧ w = w' := by
  have NC := Lib.hid (docName_any c hc)
  have SC := Lib.hid (docSmall_any c hc)
  have LK := look_run (P := Tryd.prog) (k := 5) (e := 9) (t := 28) Tryd.underlying5 Tryd.underlying28 zeroStr hM (low c) (low_lt c hc)
  unfold bk at LK
  unfold got gcode ok
  clear hM
  by_cases hn : nm c = true
  · rw [hn] at NC
    simp only [hn, Bool.true_or, if_true]
    generalize low c = d at *
    generalize f d = y at *
    go_enter Tryd.func11, Tryd.ntmps11
    go_wp2_with fail
    refine (NC.out _).mono ?_; rintro e w1 ⟨rfl, rfl⟩
    go_wp2_with fail
    refine (SC.out _).mono ?_; rintro e w1 ⟨rfl, rfl⟩
    go_wp2_with fail
    go_ret2
    exact ⟨rfl, rfl⟩
  · have hn' : nm c = false := by simpa using hn
    rw [hn'] at NC
    rcases (show (49 ≤ c ∧ c ≤ 57) ∨ c < 49 ∨ (49 ≤ c ∧ 57 < c) by omega) with ⟨h1, h2⟩ | h1 | ⟨h1, h2⟩
    · have hl := (low_dig c ⟨h1, h2⟩).1
      simp only [hn', Bool.false_or, decide_eq_true (show 49 ≤ c ∧ c ≤ 57 from ⟨h1, h2⟩), if_true]
      rw [hl] at SC LK ⊢
      generalize f c = y at *
      clear hl hn hn'
      go_enter Tryd.func11, Tryd.ntmps11
      go_wp2_with fail
      refine (NC.out _).mono ?_; rintro e w1 ⟨rfl, rfl⟩
      go_wp2_with fail
      refine (SC.out _).mono ?_; rintro e w1 ⟨rfl, rfl⟩
      go_wp2_with fail
      go_ret2
      exact ⟨rfl, rfl⟩
    all_goals
      rw [hn', decide_eq_false (show ¬ (49 ≤ c ∧ c ≤ 57) by omega)]
      clear hn hn' LK SC
      go_enter Tryd.func11, Tryd.ntmps11
      go_wp2_with fail
      refine (NC.out _).mono ?_; rintro e w1 ⟨rfl, rfl⟩
      go_wp2_with fail
      go_ret2
      exact ⟨rfl, rfl⟩
/-- What regs' Get gives. -/
def got2 (f : Nat → ByteArray) (C : List ByteArray) (c : Nat) : ByteArray := if 49 ≤ c ∧ c ≤ 57 then C.getD (c - 49) ⟨#[]⟩ else if nm c = true then f (low c) else ⟨#[]⟩
set_option maxRecDepth 100000 in
set_option maxHeartbeats 2000000 in
theorem get_any (w : World) (g n : Nat) (mo : Option Nat) (f : Nat → ByteArray) (C : List ByteArray) (c : Nat) (hG : GR w g mo f n C) (hc : c < 256) :
    Calls Tryd.prog 12 #[.pointer (some ⟨g, 0, none⟩), .int .u8 c] w fun e w' => e = .returned (.tuple #[.string (got2 f C c), errV (gcode c)]) ∧ w = w' := by
  have NC := Lib.hid (name_any c hc)
  have SC := Lib.hid (small_any c hc)
  have hll := low_lt c hc
  have c0 := hG.c0
  have LK : (Instr.lookup 24 (.map mo) (.int .u8 (low c : Int)) false).run Tryd.prog w = .ok (.string (f (low c))) w := by
    cases mo with
    | none =>
      have := Maps.look_nil (P := Tryd.prog) (w := w) (t := 24) false (Maps.int_keyed Tryd.underlying5) Tryd.underlying24 (zeroStr w) (keyof Tryd.underlying5 (low c) hll)
      rw [hG.no rfl (low c) hll]
      exact this
    | some b => exact look_run (P := Tryd.prog) (k := 5) (e := 9) (t := 24) Tryd.underlying5 Tryd.underlying24 zeroStr (hG.yes b rfl).2 (low c) hll
  unfold got2 gcode ok
  by_cases hd : 49 ≤ c ∧ c ≤ 57
  · obtain ⟨i, hi⟩ : ∃ i, c = 49 + i := ⟨c - 49, by omega⟩
    have hcell := hG.cs i (by rw [hG.len]; omega)
    have hC : C.getD (c - 49) ⟨#[]⟩ = C[i]'(by rw [hG.len]; omega) := by
      rw [show c - 49 = i by omega, List.getD_eq_getElem?_getD, List.getElem?_eq_getElem (by rw [hG.len]; omega)]
      rfl
    rw [if_pos hd, (low_dig c hd).2, decide_eq_true hd, hC]
    have hev : errV (if (false || true) = true then 0 else 5) = .nilIface := rfl
    rw [hev]
    generalize (C[i]'(by rw [hG.len]; omega)) = y at *
    obtain ⟨h1, h2⟩ := hd
    subst hi
    have i1 : (0 : Int) ≤ (i : Int) := by omega
    have i2 : (i : Int) < 9 := by omega
    have hsub : ((49 + i : Nat) : Int) - 49 = (i : Int) := by omega
    have hcell2 : w.cell? ⟨g, 1 + i, none⟩ = some (.string y) := by rw [Nat.add_comm]; exact hcell
    clear hG LK NC SC hC hev
    go_enter Tryd.func12, Tryd.ntmps12
    go_wp2_with fail
    go_ret2
    exact ⟨rfl, rfl⟩
  · rw [if_neg hd, decide_eq_false hd, Bool.or_false]
    clear hG
    rcases (show c < 49 ∨ (49 ≤ c ∧ 57 < c) by omega) with h1 | ⟨h1, h2⟩
    all_goals
      clear hd
      by_cases hn : nm c = true
      · rw [hn] at NC
        rw [if_pos hn, if_pos hn]
        generalize low c = d at *
        generalize f d = y at *
        go_enter Tryd.func12, Tryd.ntmps12
        go_wp2_with fail
        refine (NC.out _).mono ?_; rintro e w1 ⟨rfl, rfl⟩
        go_wp2_with fail
        refine (SC.out _).mono ?_; rintro e w1 ⟨rfl, rfl⟩
        go_wp2_with fail
        go_ret2
        exact ⟨rfl, rfl⟩
      · have hn' : nm c = false := by simpa using hn
        rw [hn'] at NC
        rw [if_neg hn, if_neg hn]
        go_enter Tryd.func12, Tryd.ntmps12
        go_wp2_with fail
        refine (NC.out _).mono ?_; rintro e w1 ⟨rfl, rfl⟩
        go_wp2_with fail
        go_ret2
        exact ⟨rfl, rfl⟩
end Go.Proofs.YthkigjhbcempbaaDoor.Rg
