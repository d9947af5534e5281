/-
  PROVED HERE: registers in memory, and the contract of the document's Put. Conditions: as each theorem states.
-/
import Derived.Test.YthkigjhbcempbaaDoorRgB
namespace Go.Proofs.YthkigjhbcempbaaDoor.Rg
open Go.RowKit
def txt (f : Nat → ByteArray) (c : Nat) (t : ByteArray) : ByteArray := if big c = true then f (low c) ++ t else t
def code (f : Nat → ByteArray) (c : Nat) (t : ByteArray) : Int := if nm c = false then 5 else if 4000 < (txt f c t).size then 12 else 0
def putF (f : Nat → ByteArray) (c : Nat) (t : ByteArray) : Nat → ByteArray := if code f c t = 0 then upd (upd f (low c) (txt f c t)) 34 (txt f c t) else f
theorem zeroStr (w : World) : (zeroValue 9).run Tryd.prog w = .ok (.string ⟨#[]⟩) w := by kernel_rfl
theorem big_low (c : Nat) : (((low c : Nat) : Int) != (c : Int)) = big c := by
  unfold low big
  split
  · rename_i h; rw [decide_eq_true h]; simp; omega
  · rename_i h; rw [decide_eq_false h]; simp
/-- An entry at d, its store, and an update at 34. -/
theorem doc_mem {w : World} {r n : Nat} {f : Nat → ByteArray} (hM : Mp w r f n) (d : Nat) (hd : d < 256) (T : ByteArray) :
    ∃ (st : Nat) (v : ByteArray) (w1 w2 w3 : World), (Instr.mapEntry 28 (.map (some r)) (.int .u8 (d : Int))).run Tryd.prog w = .ok (.tuple #[.string v, .int .i64 (st : Int)]) w1 ∧
      (Instr.entryStore 28 (.map (some r)) (.int .i64 (st : Int)) (.string T)).run Tryd.prog w1 = .ok () w2 ∧
      (Instr.mapUpdate 28 (.map (some r)) (.int .u8 34) (.string T)).run Tryd.prog w2 = .ok () w3 ∧ Mp w3 r (upd (upd f d T) 34 T) (n + 2) ∧ Keeps (fun k => k = r) w w3 := by
  obtain ⟨st, w1, e1, m1, s1, _, k1, _⟩ := entry_run (P := Tryd.prog) (k := 5) (e := 9) (t := 28) Tryd.underlying5 Tryd.underlying28 zeroStr hM d hd
  obtain ⟨w2, e2, m2, _, k2, _⟩ := store_run (P := Tryd.prog) (t := 28) m1 s1 T hd
  obtain ⟨w3, e3, m3, k3, _⟩ := update_run (P := Tryd.prog) (k := 5) (e := 9) (t := 28) Tryd.underlying5 Tryd.underlying28 m2 34 (by decide) T
  exact ⟨st, f d, w1, w2, w3, e1, e2, e3, m3, (k1.trans k2 (fun _ h => .inl h)).trans k3 (fun _ h => .inl h)⟩
def DocPutP (r : Nat) (f : Nat → ByteArray) (n : Nat) (c : Nat) (t : ByteArray) (w : World) (e : Ending) (w' : World) : Prop :=
  e = .returned (.int .i64 (code f c t)) ∧ Mp w' r (putF f c t) (n + 2) ∧ Keeps (fun k => k = r) w w'
set_option maxRecDepth 100000 in
set_option maxHeartbeats 2000000 in
theorem docPut_any (w : World) (r n : Nat) (f : Nat → ByteArray) (c : Nat) (t : ByteArray) (hM : Mp w r f n) (hc : c < 256) (hf : ∀ k, k < 256 → (f k).size ≤ 10000) (ht : t.size ≤ 10000) :
    Calls Tryd.prog 8 #[.map (some r), .int .u8 c, .string t] w (DocPutP r f n c t w) := by
  have NC := Lib.hid (docName_any c hc)
  have SC := Lib.hid (docSmall_any c hc)
  have MH := Lib.hid hM
  have hll := low_lt c hc
  have hfl := hf (low c) hll
  have hbl := big_low c
  unfold DocPutP putF code txt
  by_cases hn : nm c = false
  · simp only [hn, if_true]
    rw [if_neg (by decide)]
    rw [hn] at NC
    clear hM hbl
    go_enter Tryd.func8, Tryd.ntmps8
    go_wp2_with fail
    refine (NC.out _).mono ?_; rintro e w1 ⟨rfl, rfl⟩
    go_wp2_with fail
    go_ret
    exact ⟨rfl, MH.out.mono (by omega), Keeps.refl _ _⟩
  · have hn' : nm c = true := by simpa using hn
    simp only [hn', Bool.true_eq_false, if_false]
    rw [hn'] at NC
    have LK := look_run (P := Tryd.prog) (k := 5) (e := 9) (t := 28) Tryd.underlying5 Tryd.underlying28 zeroStr hM (low c) hll
    unfold bk at LK
    have main : ∀ (T : ByteArray), T.size ≤ 20000 → T = (if big c = true then f (low c) ++ t else t) →
        Calls Tryd.prog 8 #[.map (some r), .int .u8 c, .string t] w (fun e w' => e = .returned (.int .i64 (if 4000 < T.size then 12 else 0)) ∧ Mp w' r (if (if 4000 < T.size then (12 : Int) else 0) = 0 then upd (upd f (low c) T) 34 T else f) (n + 2) ∧ Keeps (fun k => k = r) w w') := by
      intro T hT hTe
      obtain ⟨st, v, w1, w2, w3, e1, e2, e3, m3, k3⟩ := doc_mem hM (low c) hll T
      have M3 := Lib.hid m3
      have K3 := Lib.hid k3
      clear hM m3 k3 hf
      generalize low c = d at *
      generalize f d = y at *
      by_cases hs : 4000 < T.size
      · simp only [hs, if_true]
        rw [if_neg (by decide)]
        have hs' : (4000 : Int) < (T.size : Int) := by omega
        clear e1 e2 e3 M3 K3
        by_cases hb : big c = true
        · rw [if_pos hb] at hTe
          rw [hb] at hbl
          clear hb
          subst hTe
          have hs2 : (4000 : Int) < (y.size : Int) + (t.size : Int) := by rw [ByteArray.size_append] at hs; omega
          go_enter Tryd.func8, Tryd.ntmps8
          go_wp2_with fail
          refine (NC.out _).mono ?_; rintro e w1 ⟨rfl, rfl⟩
          go_wp2_with fail
          refine (SC.out _).mono ?_; rintro e w1 ⟨rfl, rfl⟩
          go_wp2_with fail
          refine (SC.out _).mono ?_; rintro e w1 ⟨rfl, rfl⟩
          go_wp2_with fail
          go_ret
          exact ⟨rfl, MH.out.mono (by omega), Keeps.refl _ _⟩
        · rw [if_neg hb] at hTe
          have hb' : big c = false := by simpa using hb
          rw [hb'] at hbl
          clear hb hb'
          subst hTe
          go_enter Tryd.func8, Tryd.ntmps8
          go_wp2_with fail
          refine (NC.out _).mono ?_; rintro e w1 ⟨rfl, rfl⟩
          go_wp2_with fail
          refine (SC.out _).mono ?_; rintro e w1 ⟨rfl, rfl⟩
          go_wp2_with fail
          go_ret
          exact ⟨rfl, MH.out.mono (by omega), Keeps.refl _ _⟩
      · simp only [hs, if_false, if_true]
        have hs' : (T.size : Int) ≤ 4000 := by omega
        by_cases hb : big c = true
        · rw [if_pos hb] at hTe
          rw [hb] at hbl
          clear hb
          subst hTe
          have hs2 : (y.size : Int) + (t.size : Int) ≤ 4000 := by rw [ByteArray.size_append] at hs; omega
          clear hs
          go_enter Tryd.func8, Tryd.ntmps8
          go_wp2_with fail
          refine (NC.out _).mono ?_; rintro e w1 ⟨rfl, rfl⟩
          go_wp2_with fail
          refine (SC.out _).mono ?_; rintro e w1 ⟨rfl, rfl⟩
          go_wp2_with fail
          refine (SC.out _).mono ?_; rintro e w1 ⟨rfl, rfl⟩
          go_wp2_with fail
          refine (SC.out _).mono ?_; rintro e w1 ⟨rfl, rfl⟩
          go_wp2_with fail
          go_ret
          exact ⟨rfl, M3.out, K3.out⟩
        · rw [if_neg hb] at hTe
          have hb' : big c = false := by simpa using hb
          rw [hb'] at hbl
          clear hb hb' hs
          subst hTe
          go_enter Tryd.func8, Tryd.ntmps8
          go_wp2_with fail
          refine (NC.out _).mono ?_; rintro e w1 ⟨rfl, rfl⟩
          go_wp2_with fail
          refine (SC.out _).mono ?_; rintro e w1 ⟨rfl, rfl⟩
          go_wp2_with fail
          refine (SC.out _).mono ?_; rintro e w1 ⟨rfl, rfl⟩
          go_wp2_with fail
          go_ret
          exact ⟨rfl, M3.out, K3.out⟩
    exact main _ (by split <;> first | (rw [ByteArray.size_append]; omega) | omega) rfl
end Go.Proofs.YthkigjhbcempbaaDoor.Rg
