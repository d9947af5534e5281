/-
  PROVED HERE: the contract of the document's Lex; the contract of the document's Lex. Conditions: as each theorem states.
-/
import Derived.Test.YtkopjmofdnlplaaGreatDoorLexE
import Derived.Test.YtkopjmofdnlplaaGreatDoorPlc
namespace Go.Proofs.YtkopjmofdnlplaaGreatDoor.Lex
open Go.RowKit
def Z2 : Obj := .cells #[.int .i64 0, .int .i64 0] 30
def Rz (W wr : World) : Prop := Below (W.heap.size + 1) (W.alloc Z2) wr
theorem Rz.cells {W wr : World} (h : Rz W wr) : wr.cell? ⟨W.heap.size, 0, none⟩ = some (.int .i64 0) ∧ wr.cell? ⟨W.heap.size, 1, none⟩ = some (.int .i64 0) := by
  have k : ∀ j, wr.cell? ⟨W.heap.size, j, none⟩ = (W.alloc Z2).cell? ⟨W.heap.size, j, none⟩ := fun j => Below.cell h (p := ⟨W.heap.size, j, none⟩) (Nat.lt_succ_self _)
  refine ⟨?_, ?_⟩ <;> rw [k] <;> unfold Z2 <;> simp
theorem Rz.frozen {W wr : World} (h : Rz W wr) (j : Nat) : wr.frozen? ⟨W.heap.size, j, none⟩ = false := by
  rw [Below.frozen h (p := ⟨W.heap.size, j, none⟩) (Nat.lt_succ_self _)]
  unfold Z2
  simp
theorem Rz.below {W wr : World} (h : Rz W wr) : Below W.heap.size W wr := ((Below.refl _ _).alloc (Nat.le_refl _) _).trans (Below.mono h (Nat.le_succ _))
theorem Rz.size {W wr : World} (h : Rz W wr) : W.heap.size + 1 ≤ wr.heap.size := by have := Below.size h; simpa using this
theorem Rz.next {W wr w1 : World} (h : Rz W wr) (g : Below wr.heap.size wr w1) : Rz W w1 := Below.trans h (g.mono h.size)
theorem Rz.alloc {W wr : World} (h : Rz W wr) (o : Obj) : Rz W (wr.alloc o) := Below.alloc h h.size o
theorem Rz.trans' {W wr w1 : World} (h : Rz W wr) (g : Below (W.heap.size + 1) wr w1) : Rz W w1 := Below.trans h g
def DX (s : ByteArray) (W : World) (e : Ending) (w' : World) : Prop := ∃ v, e = .returned (.tuple #[v, .agg #[.int .i64 (rc s), .int .i64 (rp s)]]) ∧ Tks w' v (rl s) ∧ Below W.heap.size W w'
theorem lex_results (tmps : Array Value) (w : World) (g : Nat) (v0 v1 : Value) (h3 : tmps.getD 3 undef = .pointer (some ⟨g, 0, none⟩)) (c0 : w.cell? ⟨g, 0, none⟩ = some v0) (c1 : w.cell? ⟨g, 1, none⟩ = some v1) :
    (results Tryz.f106 tmps).run Tryz.prog w = .ok (.tuple #[tmps.getD 2 undef, .agg #[v0, v1]]) w := by
  have h3' : tmps[3]?.getD undef = .pointer (some ⟨g, 0, none⟩) := by simpa using h3
  simp only [results, Tryz.f106]
  simp [go_sem, h3', c0, c1]
theorem set_other (w : World) (g j g' j' : Nat) (v : Value) (h : g' ≠ g ∨ j' ≠ j) : (w.setCell ⟨g, j, none⟩ v).cell? ⟨g', j', none⟩ = w.cell? ⟨g', j', none⟩ := World.cell?_setCell_other _ _ _ _ (by intro hh; simp at hh; omega)
theorem lex_end (s : ByteArray) (W : World) (a : Act) (w : World) (v : Value) (c p : Int) (hB : Rz W w) (hd : a.defers = []) (h2 : a.tmps.getD 2 undef = v) (h3 : a.tmps.getD 3 undef = .pointer (some ⟨W.heap.size, 0, none⟩)) (hv : OwnT w (W.heap.size + 1) v (rl s)) (hc : rc s = c) (hp : rp s = p) :
    bodyPost Tryz.prog Tryz.f106 (DX s W) .ret a ((w.setCell ⟨W.heap.size, 0, none⟩ (.int .i64 c)).setCell ⟨W.heap.size, 1, none⟩ (.int .i64 p)) := by
  obtain ⟨r0, r1⟩ := hB.cells
  have c1 : ((w.setCell ⟨W.heap.size, 0, none⟩ (.int .i64 c)).setCell ⟨W.heap.size, 1, none⟩ (.int .i64 p)).cell? ⟨W.heap.size, 1, none⟩ = some (.int .i64 p) := World.cell?_setCell_same _ _ _ ((set_other _ _ _ _ _ _ (by omega)).trans r1)
  have c0 : ((w.setCell ⟨W.heap.size, 0, none⟩ (.int .i64 c)).setCell ⟨W.heap.size, 1, none⟩ (.int .i64 p)).cell? ⟨W.heap.size, 0, none⟩ = some (.int .i64 c) := (set_other _ _ _ _ _ _ (by omega)).trans (World.cell?_setCell_same _ _ _ r0)
  refine ⟨hd, _, lex_results a.tmps _ W.heap.size _ _ h3 c0 c1, ?_⟩
  subst hc
  subst hp
  rw [h2]
  have o1 : OwnT (w.setCell ⟨W.heap.size, 0, none⟩ (.int .i64 (rc s))) (W.heap.size + 1) v (rl s) := ownsRow_setCell_below hv (Nat.lt_succ_self _) _
  have o2 : OwnT ((w.setCell ⟨W.heap.size, 0, none⟩ (.int .i64 (rc s))).setCell ⟨W.heap.size, 1, none⟩ (.int .i64 (rp s))) (W.heap.size + 1) v (rl s) := ownsRow_setCell_below o1 (Nat.lt_succ_self _) _
  exact ⟨v, rfl, o2.tks, (hB.below.setCell (p := ⟨W.heap.size, 0, none⟩) (Nat.le_refl _) _).setCell (p := ⟨W.heap.size, 1, none⟩) (Nat.le_refl _) _⟩
theorem res_bad (s : ByteArray) (hs : ¬ 3000 < s.size) (i : Nat) (hr : ro s = .bad i) : rl s = [] ∧ rc s = 3 ∧ rp s = i := by
  unfold rl rc rp
  rw [if_neg hs, if_neg hs, if_neg hs, hr]
  exact ⟨rfl, rfl, rfl⟩
theorem res_ok (s : ByteArray) (hs : ¬ 3000 < s.size) (p : List (Nat × Nat)) (hr : ro s = .ok p) : rl s = tks s p ∧ rc s = 0 ∧ rp s = -1 := by
  unfold rl rc rp
  rw [if_neg hs, if_neg hs, if_neg hs, hr]
  exact ⟨rfl, rfl, rfl⟩
theorem res_long (s : ByteArray) (hs : 3000 < s.size) : rl s = [] ∧ rc s = 4 ∧ rp s = -1 := by
  unfold rl rc rp
  rw [if_pos hs, if_pos hs, if_pos hs]
  exact ⟨rfl, rfl, rfl⟩
theorem sgl_ix : ∀ c : UInt8, decide (0 ≤ Lib.indexByte [123, 125, 91, 93, 40, 41, 59, 44, 61, 43, 45, 42, 38, 124, 60, 62] c) = sgl c := of_all (by decide +kernel)
theorem one_str (s : ByteArray) (k : Nat) (h : k < s.size) : s.extract k (k + 1) = ⟨#[s[k]]⟩ := by
  apply ByteArray.ext
  rw [ByteArray.data_extract]
  apply Array.ext
  · simp
    have : s.data.size = s.size := rfl
    omega
  · intro i h1 h2
    have : i = 0 := by simpa using h2
    subst this
    simp
    rfl
theorem pre_eq (s : ByteArray) (k : Nat) (h : k < s.size) (a : UInt8) : Lib.hasPrefix (s.extract k s.size).data.toList [a, 61] = (s[k] == a && ((lst s).drop (k + 1)).head? == some 61) := by
  have : (s.extract k s.size).data.toList = s[k] :: (lst s).drop (k + 1) := by rw [← lst_at s k h]; exact lst_drop s k
  rw [this, hp_two]
/-- The mode, in the document's variables. -/
def Md (m : M) (k : Nat) (w : Int) (r : Bool) : Prop := (m = .plain ∧ w = -1 ∧ r = false) ∨ (m = .remark ∧ w = -1 ∧ r = true) ∨ ∃ a : Nat, m = .word a ∧ a < k ∧ w = a ∧ r = false
def DR (s : ByteArray) (W : World) (v wv rv i : Value) (wr : World) : Prop :=
  ∃ (k : Nat) (p : List (Nat × Nat)) (m : M) (w : Int) (r : Bool), k ≤ s.size ∧ Hid (p.length ≤ (match m with | .word a => a | _ => k)) ∧ Hid (Md m k w r) ∧ i = .int .i64 k ∧ wv = .int .i64 w ∧ rv = .bool r ∧ TL s wr (W.heap.size + 1) v p ∧ Hid (ro s = R.app p (lx m k ((lst s).drop k))) ∧ Hid (Rz W wr)
end Go.Proofs.YtkopjmofdnlplaaGreatDoor.Lex
namespace Go.Proofs.YtkopjmofdnlplaaGreatDoor.Lex
open Go.RowKit
set_option maxRecDepth 100000 in
set_option maxHeartbeats 8000000 in
theorem docLex_any (s : ByteArray) (hs : s.size ≤ 4000) (W : World) : Calls Tryz.prog 106 #[.string s] W (DX s W) := by
  by_cases hl : 3000 < s.size
  · have hr := Lib.hid (res_long s hl)
    go_enter Tryz.func106, Tryz.ntmps106
    go_wp2_with fail
    exact ⟨rfl, _, lex_results _ _ W.heap.size (.int .i64 4) (.int .i64 (-1)) rfl (by simp) (by simp), ⟨_, by rw [hr.out.2.1, hr.out.2.2], by rw [hr.out.1]; exact tks_none _, (Below.refl _ _).alloc (Nat.le_refl _) _⟩⟩
  go_enter Tryz.func106, Tryz.ntmps106
  go_wp2_with fail
  go_loopw [4, 5, 6, 7] (fun v wv rv i wr => DR s W v wv rv i wr) (fun _ _ _ i _ => s.size + 1 - (intOf i).toNat)
  case atStart => exact ⟨0, [], .plain, -1, false, Nat.zero_le _, Lib.hid (Nat.le_refl _), Lib.hid (.inl ⟨rfl, rfl, rfl⟩), rfl, rfl, rfl, tl_new (ownT_nil _ _), Lib.hid (by rw [R.app_nil, List.drop_zero]; rfl), Lib.hid (Below.refl _ _)⟩
  case round =>
    obtain ⟨k, p, m, w, r, hk, hpl0, hmd, rfl, rfl, rfl, hTL, hR, hB⟩ := hrel
    obtain ⟨⟨a0, c0, rfl⟩, hO⟩ := hTL
    by_cases hlt : k < s.size
    · have i1 : (0 : Int) ≤ (k : Int) := by omega
      have i2 : (k : Int) < (s.size : Int) := by omega
      have hat := lst_at s k hlt
      have hke : ((k : Int) == (s.size : Int)) = false := by rw [beq_eq_false_iff_ne]; omega
      rcases hmd.out with ⟨rfl, rfl, rfl⟩ | ⟨rfl, rfl, rfl⟩ | ⟨a, rfl, ha, rfl, rfl⟩
      · have hpl : p.length ≤ k := hpl0.out
        clear hmd hpl0
        have L := docLetter_any s[k]
        have D := docDigit_any s[k]
        have hwd : wch s[k] = (ltr s[k] || dgt s[k]) := rfl
        rcases hw : wch s[k] with _ | _
        · rw [hw] at hwd
          have hwd2 := hwd.symm
          simp only [Bool.or_eq_false_iff] at hwd2
          rw [hwd2.1] at L
          rw [hwd2.2] at D
          have LH := Lib.hid L
          have DH := Lib.hid D
          clear L D hwd hwd2
          go_wp2_with fail
          refine (LH.out _).mono ?_; rintro e w' ⟨rfl, rfl⟩
          go_wp2_with fail
          refine (DH.out _).mono ?_; rintro e w' ⟨rfl, rfl⟩
          by_cases hbl : blk s[k] = true
          · have hN : Hid (ro s = R.app p (lx .plain (k + 1) ((lst s).drop (k + 1)))) := Lib.hid (by rw [hR.out, hat, lx_blank _ _ _ hbl])
            rw [blk_of] at hbl
            simp only [decide_eq_true_eq] at hbl
            clear hat hR hw
            rcases hbl with h | h | h
            · have b10 := byte_ne s[k].toNat 10 (by omega)
              have b35 := byte_ne s[k].toNat 35 (by omega)
              have b32 := byte_eq s[k].toNat 32 (by omega)
              clear h
              go_wp2_with fail
              go_roundw
              case rel => first | exact ⟨k + 1, p, .plain, -1, false, by omega, Lib.hid (by show p.length ≤ k + 1; omega), Lib.hid (.inl ⟨rfl, rfl, rfl⟩), by go_num, rfl, rfl, ⟨⟨_, _, rfl⟩, hO⟩, hN, hB⟩ | ((repeat apply Exists.intro); exact ⟨⟨k + 1, p, .plain, -1, false, by omega, Lib.hid (by show p.length ≤ k + 1; omega), Lib.hid (.inl ⟨rfl, rfl, rfl⟩), by go_num, rfl, rfl, ⟨⟨_, _, rfl⟩, hO⟩, hN, hB⟩, rfl⟩)
              case measure => simp [intOf]; omega
            · have b10 := byte_eq s[k].toNat 10 (by omega)
              have b35 := byte_ne s[k].toNat 35 (by omega)
              have b32 := byte_ne s[k].toNat 32 (by omega)
              clear h
              go_wp2_with fail
              go_roundw
              case rel => first | exact ⟨k + 1, p, .plain, -1, false, by omega, Lib.hid (by show p.length ≤ k + 1; omega), Lib.hid (.inl ⟨rfl, rfl, rfl⟩), by go_num, rfl, rfl, ⟨⟨_, _, rfl⟩, hO⟩, hN, hB⟩ | ((repeat apply Exists.intro); exact ⟨⟨k + 1, p, .plain, -1, false, by omega, Lib.hid (by show p.length ≤ k + 1; omega), Lib.hid (.inl ⟨rfl, rfl, rfl⟩), by go_num, rfl, rfl, ⟨⟨_, _, rfl⟩, hO⟩, hN, hB⟩, rfl⟩)
              case measure => simp [intOf]; omega
            · have b10 := byte_ne s[k].toNat 10 (by omega)
              have b35 := byte_ne s[k].toNat 35 (by omega)
              have b32 := byte_ne s[k].toNat 32 (by omega)
              have b9 := byte_eq s[k].toNat 9 (by omega)
              clear h
              go_wp2_with fail
              go_roundw
              case rel => first | exact ⟨k + 1, p, .plain, -1, false, by omega, Lib.hid (by show p.length ≤ k + 1; omega), Lib.hid (.inl ⟨rfl, rfl, rfl⟩), by go_num, rfl, rfl, ⟨⟨_, _, rfl⟩, hO⟩, hN, hB⟩ | ((repeat apply Exists.intro); exact ⟨⟨k + 1, p, .plain, -1, false, by omega, Lib.hid (by show p.length ≤ k + 1; omega), Lib.hid (.inl ⟨rfl, rfl, rfl⟩), by go_num, rfl, rfl, ⟨⟨_, _, rfl⟩, hO⟩, hN, hB⟩, rfl⟩)
              case measure => simp [intOf]; omega
          · have hbl2 : blk s[k] = false := by simpa using hbl
            have hbn := hbl2
            rw [blk_of] at hbn
            simp only [decide_eq_false_iff_not] at hbn
            have b10 := byte_ne s[k].toNat 10 (by omega)
            by_cases h35 : s[k].toNat = 35
            · have b35 := byte_eq s[k].toNat 35 (by omega)
              have hsk : s[k] = 35 := UInt8.toNat_inj.1 h35
              have hN : Hid (ro s = R.app p (lx .remark (k + 1) ((lst s).drop (k + 1)))) := Lib.hid (by
                have e : lx .remark k (35 :: (lst s).drop (k + 1)) = lx .remark (k + 1) ((lst s).drop (k + 1)) := by rw [lx, if_neg (by decide)]
                rw [hR.out, hat, hsk, lx_hash, e])
              clear hat hR hw hbl hbl2 hbn hsk h35
              go_wp2_with fail
              go_roundw
              case rel => first | exact ⟨k + 1, p, .remark, -1, true, by omega, Lib.hid (by show p.length ≤ k + 1; omega), Lib.hid (.inr (.inl ⟨rfl, rfl, rfl⟩)), by go_num, rfl, rfl, ⟨⟨_, _, rfl⟩, hO⟩, hN, hB⟩ | ((repeat apply Exists.intro); exact ⟨⟨k + 1, p, .remark, -1, true, by omega, Lib.hid (by show p.length ≤ k + 1; omega), Lib.hid (.inr (.inl ⟨rfl, rfl, rfl⟩)), by go_num, rfl, rfl, ⟨⟨_, _, rfl⟩, hO⟩, hN, hB⟩, rfl⟩)
              case measure => simp [intOf]; omega
            · have b35 := byte_ne s[k].toNat 35 (by omega)
              have b32 := byte_ne s[k].toNat 32 (by omega)
              have b9 := byte_ne s[k].toNat 9 (by omega)
              have hsk : s[k] ≠ 35 := fun e => h35 (by rw [e]; rfl)
              have i3 : (k : Int) + 1 ≤ (s.size : Int) := by omega
              have CT : ∀ w, Calls Tryz.prog 110 #[.string ⟨#[123, 125, 91, 93, 40, 41, 59, 44, 61, 43, 45, 42, 38, 124, 60, 62]⟩, .string (s.extract k (k + 1))] w fun e w' => e = .returned (.bool (sgl s[k])) ∧ w = w' := fun w => by
                rw [one_str s k hlt, ← sgl_ix]
                exact (Tryz.strings_Contains_one _ s[k] w).mono fun e w' ⟨h1, h2⟩ => ⟨h1, h2.symm⟩
              have P1 : ∀ w, Calls Tryz.prog 141 #[.string (s.extract k s.size), .string ⟨#[61, 61]⟩] w fun e w' => e = .returned (.bool (s[k] == 61 && ((lst s).drop (k + 1)).head? == some 61)) ∧ w = w' := fun w => by
                rw [← pre_eq s k hlt]
                exact (Tryz.strings_HasPrefix _ _ w).mono fun e w' ⟨h1, h2⟩ => ⟨h1, h2.symm⟩
              have P2 : ∀ w, Calls Tryz.prog 141 #[.string (s.extract k s.size), .string ⟨#[33, 61]⟩] w fun e w' => e = .returned (.bool (s[k] == 33 && ((lst s).drop (k + 1)).head? == some 61)) ∧ w = w' := fun w => by
                rw [← pre_eq s k hlt]
                exact (Tryz.strings_HasPrefix _ _ w).mono fun e w' ⟨h1, h2⟩ => ⟨h1, h2.symm⟩
              have hnx := nx_mark s[k] ((lst s).drop (k + 1)) hw
              have hmk : mk s[k] ((lst s).drop (k + 1)) = if ((s[k] == 61 && ((lst s).drop (k + 1)).head? == some 61) || (s[k] == 33 && ((lst s).drop (k + 1)).head? == some 61)) = true then 2 else if sgl s[k] = true then 1 else 0 := by
                unfold mk
                rw [Bool.and_or_distrib_right]
              have hle := nx_le ((lst s).drop k)
              rw [List.length_drop, lst_len, hat, hnx] at hle
              have hBAD : mk s[k] ((lst s).drop (k + 1)) = 0 → ro s = .bad k := fun h => by
                rw [hR.out, hat, lx_bad _ _ _ hbl2 hsk (by rw [hnx]; exact h)]
                rfl
              have hTOK : ∀ n, mk s[k] ((lst s).drop (k + 1)) = n → 0 < n → ro s = R.app (p ++ [(k, k + n)]) (lx .plain (k + n) ((lst s).drop (k + n))) := fun n hn h => by
                rw [hR.out, ← R.app_app]
                conv => lhs; rw [hat, lx_token _ _ _ hbl2 hsk (by rw [hnx, hn]; exact h)]
                rw [hnx, hn, ← hat, List.drop_drop]
              rw [hmk] at hBAD hTOK hle
              have h61 : (s[k] == 61 && ((lst s).drop (k + 1)).head? == some 61) = true → sgl s[k] = true := fun h => by
                simp only [Bool.and_eq_true, beq_iff_eq] at h
                rw [h.1]; decide
              have h33 : (s[k] == 33 && ((lst s).drop (k + 1)).head? == some 61) = true → sgl s[k] = false := fun h => by
                simp only [Bool.and_eq_true, beq_iff_eq] at h
                rw [h.1]; decide
              generalize (s[k] == 61 && ((lst s).drop (k + 1)).head? == some 61) = e1 at *
              generalize (s[k] == 33 && ((lst s).drop (k + 1)).head? == some 61) = e2 at *
              generalize sgl s[k] = e3 at *
              have CTH := Lib.hid CT
              have P1H := Lib.hid P1
              have P2H := Lib.hid P2
              have hBADH := Lib.hid hBAD
              have hTOKH := Lib.hid hTOK
              have h61H := Lib.hid h61
              have h33H := Lib.hid h33
              clear hat hR hw hbl hbl2 hbn hsk h35 CT P1 P2 hnx hmk hBAD hTOK h61 h33
              rcases e1 with _ | _
              · rcases e2 with _ | _
                · rcases e3 with _ | _
                  · have hr := res_bad s hl k (hBADH.out rfl)
                    have hrH := Lib.hid hr
                    clear hBADH hTOKH h61H h33H hle hr
                    go_wp2_with fail
                    refine (CTH.out _).mono ?_; rintro e w' ⟨rfl, rfl⟩
                    go_wp2_with fail
                    refine (P1H.out _).mono ?_; rintro e w' ⟨rfl, rfl⟩
                    go_wp2_with fail
                    refine (P2H.out _).mono ?_; rintro e w' ⟨rfl, rfl⟩
                    obtain ⟨r0, r1⟩ := hB.out.cells
                    have f0 := hB.out.frozen 0
                    have f1 := hB.out.frozen 1
                    go_wp2_with fail
                    exact lex_end s W _ _ (.slice none 0 0) 3 k hB.out rfl rfl rfl (by rw [hrH.out.1]; exact ownT_nil _ _) hrH.out.2.1 hrH.out.2.2
                  · have hr := Lib.hid (hTOKH.out 1 rfl (by decide))
                    clear hBADH hTOKH h61H h33H hle
                    go_wp2_with fail
                    refine (CTH.out _).mono ?_; rintro e w' ⟨rfl, rfl⟩
                    go_wp2_with fail
                    refine (P1H.out _).mono ?_; rintro e w' ⟨rfl, rfl⟩
                    go_wp2_with fail
                    refine (P2H.out _).mono ?_; rintro e w' ⟨rfl, rfl⟩
                    have hlen : (tks s p).length + 1 ≤ 100000000 := by rw [tks_len]; omega
                    have hBs := Lib.hid (hB.out.alloc (.cells #[.string (s.extract k (k + 1)), .int .i64 k] 170))
                    have hO2H := Lib.hid (hO.out.alloc (.cells #[.string (s.extract k (k + 1)), .int .i64 k] 170))
                    have hsnoc := Lib.hid (tks_snoc s p k (k + 1))
                    clear hO
                    go_wp2_with (at_builtin; go_loud (refine ownT_append1 rfl _ _ rfl (W.heap.size + 1) _ (tks s p) rfl hO2H.out _ 1 (Tk.mk (s.extract k (k + 1)) k) rfl (heap_alloc_new _ _) hlen hBs.out.size ?_); intro v1 w2 ho1 hg1 hb1 hat1)
                    rw [hsnoc.out] at ho1
                    have hT2 := tl_new ho1
                    have hB2 := Lib.hid (hBs.out.trans' hb1)
                    obtain ⟨⟨a2, c2, rfl⟩, hO3⟩ := hT2
                    have hlp : (p ++ [(k, k + 1)]).length = p.length + 1 := by simp
                    generalize p ++ [(k, k + 1)] = p2 at *
                    clear ho1 hg1 hb1 hat1 hsnoc hlen hO2H hBs
                    go_wp2_with fail
                    go_roundw
                    case rel => first | exact ⟨k + 1, p2, .plain, -1, false, by omega, Lib.hid (by show p2.length ≤ k + 1; omega), Lib.hid (.inl ⟨rfl, rfl, rfl⟩), by go_num, rfl, rfl, ⟨⟨_, _, rfl⟩, hO3⟩, hr, hB2⟩ | ((repeat apply Exists.intro); exact ⟨⟨k + 1, p2, .plain, -1, false, by omega, Lib.hid (by show p2.length ≤ k + 1; omega), Lib.hid (.inl ⟨rfl, rfl, rfl⟩), by go_num, rfl, rfl, ⟨⟨_, _, rfl⟩, hO3⟩, hr, hB2⟩, rfl⟩)
                    case measure => simp [intOf]; omega
                · obtain rfl : e3 = false := h33H.out rfl
                  have hr := Lib.hid (hTOKH.out 2 rfl (by decide))
                  have hk2 : k + 2 ≤ s.size := by simp at hle; omega
                  clear hBADH hTOKH h61H h33H hle
                  go_wp2_with fail
                  refine (CTH.out _).mono ?_; rintro e w' ⟨rfl, rfl⟩
                  go_wp2_with fail
                  refine (P1H.out _).mono ?_; rintro e w' ⟨rfl, rfl⟩
                  go_wp2_with fail
                  refine (P2H.out _).mono ?_; rintro e w' ⟨rfl, rfl⟩
                  have hlen : (tks s p).length + 1 ≤ 100000000 := by rw [tks_len]; omega
                  have hBs := Lib.hid (hB.out.alloc (.cells #[.string (s.extract k (k + 2)), .int .i64 k] 170))
                  have hO2H := Lib.hid (hO.out.alloc (.cells #[.string (s.extract k (k + 2)), .int .i64 k] 170))
                  have hsnoc := Lib.hid (tks_snoc s p k (k + 2))
                  clear hO
                  go_wp2_with (at_builtin; go_loud (refine ownT_append1 rfl _ _ rfl (W.heap.size + 1) _ (tks s p) rfl hO2H.out _ 1 (Tk.mk (s.extract k (k + 2)) k) rfl (heap_alloc_new _ _) hlen hBs.out.size ?_); intro v1 w2 ho1 hg1 hb1 hat1)
                  rw [hsnoc.out] at ho1
                  have hT2 := tl_new ho1
                  have hB2 := Lib.hid (hBs.out.trans' hb1)
                  obtain ⟨⟨a2, c2, rfl⟩, hO3⟩ := hT2
                  have hlp : (p ++ [(k, k + 2)]).length = p.length + 1 := by simp
                  generalize p ++ [(k, k + 2)] = p2 at *
                  clear ho1 hg1 hb1 hat1 hsnoc hlen hO2H hBs
                  go_wp2_with fail
                  go_roundw
                  case rel => first | exact ⟨k + 2, p2, .plain, -1, false, by omega, Lib.hid (by show p2.length ≤ k + 2; omega), Lib.hid (.inl ⟨rfl, rfl, rfl⟩), by go_num, rfl, rfl, ⟨⟨_, _, rfl⟩, hO3⟩, hr, hB2⟩ | ((repeat apply Exists.intro); exact ⟨⟨k + 2, p2, .plain, -1, false, by omega, Lib.hid (by show p2.length ≤ k + 2; omega), Lib.hid (.inl ⟨rfl, rfl, rfl⟩), by go_num, rfl, rfl, ⟨⟨_, _, rfl⟩, hO3⟩, hr, hB2⟩, rfl⟩)
                  case measure => simp [intOf]; omega
              · obtain rfl : e3 = true := h61H.out rfl
                have hr := Lib.hid (hTOKH.out 2 (by simp) (by decide))
                have hk2 : k + 2 ≤ s.size := by simp at hle; omega
                clear hBADH hTOKH h61H h33H hle
                go_wp2_with fail
                refine (CTH.out _).mono ?_; rintro e w' ⟨rfl, rfl⟩
                go_wp2_with fail
                refine (P1H.out _).mono ?_; rintro e w' ⟨rfl, rfl⟩
                have hlen : (tks s p).length + 1 ≤ 100000000 := by rw [tks_len]; omega
                have hBs := Lib.hid (hB.out.alloc (.cells #[.string (s.extract k (k + 2)), .int .i64 k] 170))
                have hO2H := Lib.hid (hO.out.alloc (.cells #[.string (s.extract k (k + 2)), .int .i64 k] 170))
                have hsnoc := Lib.hid (tks_snoc s p k (k + 2))
                clear hO
                go_wp2_with (at_builtin; go_loud (refine ownT_append1 rfl _ _ rfl (W.heap.size + 1) _ (tks s p) rfl hO2H.out _ 1 (Tk.mk (s.extract k (k + 2)) k) rfl (heap_alloc_new _ _) hlen hBs.out.size ?_); intro v1 w2 ho1 hg1 hb1 hat1)
                rw [hsnoc.out] at ho1
                have hT2 := tl_new ho1
                have hB2 := Lib.hid (hBs.out.trans' hb1)
                obtain ⟨⟨a2, c2, rfl⟩, hO3⟩ := hT2
                have hlp : (p ++ [(k, k + 2)]).length = p.length + 1 := by simp
                generalize p ++ [(k, k + 2)] = p2 at *
                clear ho1 hg1 hb1 hat1 hsnoc hlen hO2H hBs
                go_wp2_with fail
                go_roundw
                case rel => first | exact ⟨k + 2, p2, .plain, -1, false, by omega, Lib.hid (by show p2.length ≤ k + 2; omega), Lib.hid (.inl ⟨rfl, rfl, rfl⟩), by go_num, rfl, rfl, ⟨⟨_, _, rfl⟩, hO3⟩, hr, hB2⟩ | ((repeat apply Exists.intro); exact ⟨⟨k + 2, p2, .plain, -1, false, by omega, Lib.hid (by show p2.length ≤ k + 2; omega), Lib.hid (.inl ⟨rfl, rfl, rfl⟩), by go_num, rfl, rfl, ⟨⟨_, _, rfl⟩, hO3⟩, hr, hB2⟩, rfl⟩)
                case measure => simp [intOf]; omega
        · have hN : Hid (ro s = R.app p (lx (.word k) (k + 1) ((lst s).drop (k + 1)))) := Lib.hid (by rw [hR.out, hat, lx, if_pos hw])
          rw [hw] at hwd
          clear hw hat hR
          generalize ltr s[k] = b1 at *
          generalize dgt s[k] = b2 at *
          have LH := Lib.hid L
          have DH := Lib.hid D
          clear L D
          rcases b1 with _ | _
          · obtain rfl : b2 = true := by simpa using hwd.symm
            clear hwd
            go_wp2_with fail
            refine (LH.out _).mono ?_; rintro e w' ⟨rfl, rfl⟩
            go_wp2_with fail
            refine (DH.out _).mono ?_; rintro e w' ⟨rfl, rfl⟩
            go_wp2_with fail
            go_roundw
            case rel => first | exact ⟨k + 1, p, (.word k), k, false, by omega, Lib.hid (by show p.length ≤ k; omega), Lib.hid (.inr (.inr ⟨k, rfl, by omega, rfl, rfl⟩)), by go_num, rfl, rfl, ⟨⟨_, _, rfl⟩, hO⟩, hN, hB⟩ | ((repeat apply Exists.intro); exact ⟨⟨k + 1, p, (.word k), k, false, by omega, Lib.hid (by show p.length ≤ k; omega), Lib.hid (.inr (.inr ⟨k, rfl, by omega, rfl, rfl⟩)), by go_num, rfl, rfl, ⟨⟨_, _, rfl⟩, hO⟩, hN, hB⟩, rfl⟩)
            case measure => simp [intOf]; omega
          · clear hwd
            go_wp2_with fail
            refine (LH.out _).mono ?_; rintro e w' ⟨rfl, rfl⟩
            go_wp2_with fail
            go_roundw
            case rel => first | exact ⟨k + 1, p, (.word k), k, false, by omega, Lib.hid (by show p.length ≤ k; omega), Lib.hid (.inr (.inr ⟨k, rfl, by omega, rfl, rfl⟩)), by go_num, rfl, rfl, ⟨⟨_, _, rfl⟩, hO⟩, hN, hB⟩ | ((repeat apply Exists.intro); exact ⟨⟨k + 1, p, (.word k), k, false, by omega, Lib.hid (by show p.length ≤ k; omega), Lib.hid (.inr (.inr ⟨k, rfl, by omega, rfl, rfl⟩)), by go_num, rfl, rfl, ⟨⟨_, _, rfl⟩, hO⟩, hN, hB⟩, rfl⟩)
            case measure => simp [intOf]; omega
      · have hpl : p.length ≤ k := hpl0.out
        clear hmd hpl0
        by_cases h10 : s[k].toNat = 10
        · have b10 := byte_eq s[k].toNat 10 (by omega)
          have b35 := byte_ne s[k].toNat 35 (by omega)
          have b32 := byte_ne s[k].toNat 32 (by omega)
          have hsk : s[k] = 10 := UInt8.toNat_inj.1 h10
          have hN : Hid (ro s = R.app p (lx .plain (k + 1) ((lst s).drop (k + 1)))) := Lib.hid (by rw [hR.out, hat, hsk, lx, if_pos rfl])
          clear h10 hsk hat hR
          go_wp2_with fail
          go_roundw
          case rel => first | exact ⟨k + 1, p, .plain, -1, false, by omega, Lib.hid (by show p.length ≤ k + 1; omega), Lib.hid (.inl ⟨rfl, rfl, rfl⟩), by go_num, rfl, rfl, ⟨⟨_, _, rfl⟩, hO⟩, hN, hB⟩ | ((repeat apply Exists.intro); exact ⟨⟨k + 1, p, .plain, -1, false, by omega, Lib.hid (by show p.length ≤ k + 1; omega), Lib.hid (.inl ⟨rfl, rfl, rfl⟩), by go_num, rfl, rfl, ⟨⟨_, _, rfl⟩, hO⟩, hN, hB⟩, rfl⟩)
          case measure => simp [intOf]; omega
        · have b10 := byte_ne s[k].toNat 10 (by omega)
          have hsk : s[k] ≠ 10 := fun e => h10 (by rw [e]; rfl)
          have hN : Hid (ro s = R.app p (lx .remark (k + 1) ((lst s).drop (k + 1)))) := Lib.hid (by rw [hR.out, hat, lx, if_neg hsk])
          clear h10 hsk hat hR
          by_cases h35 : s[k].toNat = 35
          · have b35 := byte_eq s[k].toNat 35 (by omega)
            clear h35
            go_wp2_with fail
            go_roundw
            case rel => first | exact ⟨k + 1, p, .remark, -1, true, by omega, Lib.hid (by show p.length ≤ k + 1; omega), Lib.hid (.inr (.inl ⟨rfl, rfl, rfl⟩)), by go_num, rfl, rfl, ⟨⟨_, _, rfl⟩, hO⟩, hN, hB⟩ | ((repeat apply Exists.intro); exact ⟨⟨k + 1, p, .remark, -1, true, by omega, Lib.hid (by show p.length ≤ k + 1; omega), Lib.hid (.inr (.inl ⟨rfl, rfl, rfl⟩)), by go_num, rfl, rfl, ⟨⟨_, _, rfl⟩, hO⟩, hN, hB⟩, rfl⟩)
            case measure => simp [intOf]; omega
          · have b35 := byte_ne s[k].toNat 35 (by omega)
            clear h35
            go_wp2_with fail
            go_roundw
            case rel => first | exact ⟨k + 1, p, .remark, -1, true, by omega, Lib.hid (by show p.length ≤ k + 1; omega), Lib.hid (.inr (.inl ⟨rfl, rfl, rfl⟩)), by go_num, rfl, rfl, ⟨⟨_, _, rfl⟩, hO⟩, hN, hB⟩ | ((repeat apply Exists.intro); exact ⟨⟨k + 1, p, .remark, -1, true, by omega, Lib.hid (by show p.length ≤ k + 1; omega), Lib.hid (.inr (.inl ⟨rfl, rfl, rfl⟩)), by go_num, rfl, rfl, ⟨⟨_, _, rfl⟩, hO⟩, hN, hB⟩, rfl⟩)
            case measure => simp [intOf]; omega
      · have hpl : p.length ≤ a := hpl0.out
        have j1 : (0 : Int) ≤ (a : Int) := by omega
        have j2 : (a : Int) ≤ (k : Int) := by omega
        have j3 : (k : Int) ≤ (s.size : Int) := by omega
        clear hmd hpl0
        have L := docLetter_any s[k]
        have D := docDigit_any s[k]
        have hwd : wch s[k] = (ltr s[k] || dgt s[k]) := rfl
        rcases hw : wch s[k] with _ | _
        · rw [hw] at hwd
          have hwd2 := hwd.symm
          simp only [Bool.or_eq_false_iff] at hwd2
          rw [hwd2.1] at L
          rw [hwd2.2] at D
          have LH := Lib.hid L
          have DH := Lib.hid D
          clear L D hwd hwd2
          have hR2 : Hid (ro s = R.app (p ++ [(a, k)]) (lx .plain k ((lst s).drop k))) := Lib.hid (by
            have e : lx (.word a) k (s[k] :: (lst s).drop (k + 1)) = R.app [(a, k)] (lx .plain k (s[k] :: (lst s).drop (k + 1))) := by
              conv => lhs; rw [lx, if_neg (by rw [hw]; decide)]
            rw [hR.out, hat, e, R.app_app])
          clear hR
          have hlen0 : (tks s p).length + 1 ≤ 100000000 := by rw [tks_len]; omega
          have hBs0 := Lib.hid (hB.out.alloc (.cells #[.string (s.extract a k), .int .i64 a] 170))
          have hO2H0 := Lib.hid (hO.out.alloc (.cells #[.string (s.extract a k), .int .i64 a] 170))
          have hsnoc0 := Lib.hid (tks_snoc s p a k)
          have hlp0 : (p ++ [(a, k)]).length = p.length + 1 := by simp
          have hpl2 : (p ++ [(a, k)]).length ≤ k := by omega
          have hR := hR2
          generalize p ++ [(a, k)] = p2 at *
          clear hlp0 hR2 hO hB hpl
          by_cases hbl : blk s[k] = true
          · have hN : Hid (ro s = R.app p2 (lx .plain (k + 1) ((lst s).drop (k + 1)))) := Lib.hid (by rw [hR.out, hat, lx_blank _ _ _ hbl])
            rw [blk_of] at hbl
            simp only [decide_eq_true_eq] at hbl
            clear hat hR hw
            rcases hbl with h | h | h
            · have b10 := byte_ne s[k].toNat 10 (by omega)
              have b35 := byte_ne s[k].toNat 35 (by omega)
              have b32 := byte_eq s[k].toNat 32 (by omega)
              clear h
              go_wp2_with fail
              refine (LH.out _).mono ?_; rintro e w' ⟨rfl, rfl⟩
              go_wp2_with fail
              refine (DH.out _).mono ?_; rintro e w' ⟨rfl, rfl⟩
              go_wp2_with (at_builtin; go_loud (refine ownT_append1 rfl _ _ rfl (W.heap.size + 1) _ (tks s p) rfl hO2H0.out _ 1 (Tk.mk (s.extract a k) a) rfl (heap_alloc_new _ _) hlen0 hBs0.out.size ?_); intro v1 w2 ho1 hg1 hb1 hat1)
              rw [hsnoc0.out] at ho1
              have hT2 := tl_new ho1
              have hB2 := Lib.hid (hBs0.out.trans' hb1)
              obtain ⟨⟨a2, c2, rfl⟩, hO3⟩ := hT2
              clear ho1 hg1 hb1 hat1 hsnoc0 hlen0 hO2H0 hBs0
              go_roundw
              case rel => first | exact ⟨k + 1, p2, .plain, -1, false, by omega, Lib.hid (by show p2.length ≤ k + 1; omega), Lib.hid (.inl ⟨rfl, rfl, rfl⟩), by go_num, rfl, rfl, ⟨⟨_, _, rfl⟩, hO3⟩, hN, hB2⟩ | ((repeat apply Exists.intro); exact ⟨⟨k + 1, p2, .plain, -1, false, by omega, Lib.hid (by show p2.length ≤ k + 1; omega), Lib.hid (.inl ⟨rfl, rfl, rfl⟩), by go_num, rfl, rfl, ⟨⟨_, _, rfl⟩, hO3⟩, hN, hB2⟩, rfl⟩)
              case measure => simp [intOf]; omega
            · have b10 := byte_eq s[k].toNat 10 (by omega)
              have b35 := byte_ne s[k].toNat 35 (by omega)
              have b32 := byte_ne s[k].toNat 32 (by omega)
              clear h
              go_wp2_with fail
              refine (LH.out _).mono ?_; rintro e w' ⟨rfl, rfl⟩
              go_wp2_with fail
              refine (DH.out _).mono ?_; rintro e w' ⟨rfl, rfl⟩
              go_wp2_with (at_builtin; go_loud (refine ownT_append1 rfl _ _ rfl (W.heap.size + 1) _ (tks s p) rfl hO2H0.out _ 1 (Tk.mk (s.extract a k) a) rfl (heap_alloc_new _ _) hlen0 hBs0.out.size ?_); intro v1 w2 ho1 hg1 hb1 hat1)
              rw [hsnoc0.out] at ho1
              have hT2 := tl_new ho1
              have hB2 := Lib.hid (hBs0.out.trans' hb1)
              obtain ⟨⟨a2, c2, rfl⟩, hO3⟩ := hT2
              clear ho1 hg1 hb1 hat1 hsnoc0 hlen0 hO2H0 hBs0
              go_roundw
              case rel => first | exact ⟨k + 1, p2, .plain, -1, false, by omega, Lib.hid (by show p2.length ≤ k + 1; omega), Lib.hid (.inl ⟨rfl, rfl, rfl⟩), by go_num, rfl, rfl, ⟨⟨_, _, rfl⟩, hO3⟩, hN, hB2⟩ | ((repeat apply Exists.intro); exact ⟨⟨k + 1, p2, .plain, -1, false, by omega, Lib.hid (by show p2.length ≤ k + 1; omega), Lib.hid (.inl ⟨rfl, rfl, rfl⟩), by go_num, rfl, rfl, ⟨⟨_, _, rfl⟩, hO3⟩, hN, hB2⟩, rfl⟩)
              case measure => simp [intOf]; omega
            · have b10 := byte_ne s[k].toNat 10 (by omega)
              have b35 := byte_ne s[k].toNat 35 (by omega)
              have b32 := byte_ne s[k].toNat 32 (by omega)
              have b9 := byte_eq s[k].toNat 9 (by omega)
              clear h
              go_wp2_with fail
              refine (LH.out _).mono ?_; rintro e w' ⟨rfl, rfl⟩
              go_wp2_with fail
              refine (DH.out _).mono ?_; rintro e w' ⟨rfl, rfl⟩
              go_wp2_with (at_builtin; go_loud (refine ownT_append1 rfl _ _ rfl (W.heap.size + 1) _ (tks s p) rfl hO2H0.out _ 1 (Tk.mk (s.extract a k) a) rfl (heap_alloc_new _ _) hlen0 hBs0.out.size ?_); intro v1 w2 ho1 hg1 hb1 hat1)
              rw [hsnoc0.out] at ho1
              have hT2 := tl_new ho1
              have hB2 := Lib.hid (hBs0.out.trans' hb1)
              obtain ⟨⟨a2, c2, rfl⟩, hO3⟩ := hT2
              clear ho1 hg1 hb1 hat1 hsnoc0 hlen0 hO2H0 hBs0
              go_roundw
              case rel => first | exact ⟨k + 1, p2, .plain, -1, false, by omega, Lib.hid (by show p2.length ≤ k + 1; omega), Lib.hid (.inl ⟨rfl, rfl, rfl⟩), by go_num, rfl, rfl, ⟨⟨_, _, rfl⟩, hO3⟩, hN, hB2⟩ | ((repeat apply Exists.intro); exact ⟨⟨k + 1, p2, .plain, -1, false, by omega, Lib.hid (by show p2.length ≤ k + 1; omega), Lib.hid (.inl ⟨rfl, rfl, rfl⟩), by go_num, rfl, rfl, ⟨⟨_, _, rfl⟩, hO3⟩, hN, hB2⟩, rfl⟩)
              case measure => simp [intOf]; omega
          · have hbl2 : blk s[k] = false := by simpa using hbl
            have hbn := hbl2
            rw [blk_of] at hbn
            simp only [decide_eq_false_iff_not] at hbn
            have b10 := byte_ne s[k].toNat 10 (by omega)
            by_cases h35 : s[k].toNat = 35
            · have b35 := byte_eq s[k].toNat 35 (by omega)
              have hsk : s[k] = 35 := UInt8.toNat_inj.1 h35
              have hN : Hid (ro s = R.app p2 (lx .remark (k + 1) ((lst s).drop (k + 1)))) := Lib.hid (by
                have e : lx .remark k (35 :: (lst s).drop (k + 1)) = lx .remark (k + 1) ((lst s).drop (k + 1)) := by rw [lx, if_neg (by decide)]
                rw [hR.out, hat, hsk, lx_hash, e])
              clear hat hR hw hbl hbl2 hbn hsk h35
              go_wp2_with fail
              refine (LH.out _).mono ?_; rintro e w' ⟨rfl, rfl⟩
              go_wp2_with fail
              refine (DH.out _).mono ?_; rintro e w' ⟨rfl, rfl⟩
              go_wp2_with (at_builtin; go_loud (refine ownT_append1 rfl _ _ rfl (W.heap.size + 1) _ (tks s p) rfl hO2H0.out _ 1 (Tk.mk (s.extract a k) a) rfl (heap_alloc_new _ _) hlen0 hBs0.out.size ?_); intro v1 w2 ho1 hg1 hb1 hat1)
              rw [hsnoc0.out] at ho1
              have hT2 := tl_new ho1
              have hB2 := Lib.hid (hBs0.out.trans' hb1)
              obtain ⟨⟨a2, c2, rfl⟩, hO3⟩ := hT2
              clear ho1 hg1 hb1 hat1 hsnoc0 hlen0 hO2H0 hBs0
              go_roundw
              case rel => first | exact ⟨k + 1, p2, .remark, -1, true, by omega, Lib.hid (by show p2.length ≤ k + 1; omega), Lib.hid (.inr (.inl ⟨rfl, rfl, rfl⟩)), by go_num, rfl, rfl, ⟨⟨_, _, rfl⟩, hO3⟩, hN, hB2⟩ | ((repeat apply Exists.intro); exact ⟨⟨k + 1, p2, .remark, -1, true, by omega, Lib.hid (by show p2.length ≤ k + 1; omega), Lib.hid (.inr (.inl ⟨rfl, rfl, rfl⟩)), by go_num, rfl, rfl, ⟨⟨_, _, rfl⟩, hO3⟩, hN, hB2⟩, rfl⟩)
              case measure => simp [intOf]; omega
            · have b35 := byte_ne s[k].toNat 35 (by omega)
              have b32 := byte_ne s[k].toNat 32 (by omega)
              have b9 := byte_ne s[k].toNat 9 (by omega)
              have hsk : s[k] ≠ 35 := fun e => h35 (by rw [e]; rfl)
              have i3 : (k : Int) + 1 ≤ (s.size : Int) := by omega
              have CT : ∀ w, Calls Tryz.prog 110 #[.string ⟨#[123, 125, 91, 93, 40, 41, 59, 44, 61, 43, 45, 42, 38, 124, 60, 62]⟩, .string (s.extract k (k + 1))] w fun e w' => e = .returned (.bool (sgl s[k])) ∧ w = w' := fun w => by
                rw [one_str s k hlt, ← sgl_ix]
                exact (Tryz.strings_Contains_one _ s[k] w).mono fun e w' ⟨h1, h2⟩ => ⟨h1, h2.symm⟩
              have P1 : ∀ w, Calls Tryz.prog 141 #[.string (s.extract k s.size), .string ⟨#[61, 61]⟩] w fun e w' => e = .returned (.bool (s[k] == 61 && ((lst s).drop (k + 1)).head? == some 61)) ∧ w = w' := fun w => by
                rw [← pre_eq s k hlt]
                exact (Tryz.strings_HasPrefix _ _ w).mono fun e w' ⟨h1, h2⟩ => ⟨h1, h2.symm⟩
              have P2 : ∀ w, Calls Tryz.prog 141 #[.string (s.extract k s.size), .string ⟨#[33, 61]⟩] w fun e w' => e = .returned (.bool (s[k] == 33 && ((lst s).drop (k + 1)).head? == some 61)) ∧ w = w' := fun w => by
                rw [← pre_eq s k hlt]
                exact (Tryz.strings_HasPrefix _ _ w).mono fun e w' ⟨h1, h2⟩ => ⟨h1, h2.symm⟩
              have hnx := nx_mark s[k] ((lst s).drop (k + 1)) hw
              have hmk : mk s[k] ((lst s).drop (k + 1)) = if ((s[k] == 61 && ((lst s).drop (k + 1)).head? == some 61) || (s[k] == 33 && ((lst s).drop (k + 1)).head? == some 61)) = true then 2 else if sgl s[k] = true then 1 else 0 := by
                unfold mk
                rw [Bool.and_or_distrib_right]
              have hle := nx_le ((lst s).drop k)
              rw [List.length_drop, lst_len, hat, hnx] at hle
              have hBAD : mk s[k] ((lst s).drop (k + 1)) = 0 → ro s = .bad k := fun h => by
                rw [hR.out, hat, lx_bad _ _ _ hbl2 hsk (by rw [hnx]; exact h)]
                rfl
              have hTOK : ∀ n, mk s[k] ((lst s).drop (k + 1)) = n → 0 < n → ro s = R.app (p2 ++ [(k, k + n)]) (lx .plain (k + n) ((lst s).drop (k + n))) := fun n hn h => by
                rw [hR.out, ← R.app_app]
                conv => lhs; rw [hat, lx_token _ _ _ hbl2 hsk (by rw [hnx, hn]; exact h)]
                rw [hnx, hn, ← hat, List.drop_drop]
              rw [hmk] at hBAD hTOK hle
              have h61 : (s[k] == 61 && ((lst s).drop (k + 1)).head? == some 61) = true → sgl s[k] = true := fun h => by
                simp only [Bool.and_eq_true, beq_iff_eq] at h
                rw [h.1]; decide
              have h33 : (s[k] == 33 && ((lst s).drop (k + 1)).head? == some 61) = true → sgl s[k] = false := fun h => by
                simp only [Bool.and_eq_true, beq_iff_eq] at h
                rw [h.1]; decide
              generalize (s[k] == 61 && ((lst s).drop (k + 1)).head? == some 61) = e1 at *
              generalize (s[k] == 33 && ((lst s).drop (k + 1)).head? == some 61) = e2 at *
              generalize sgl s[k] = e3 at *
              have CTH := Lib.hid CT
              have P1H := Lib.hid P1
              have P2H := Lib.hid P2
              have hBADH := Lib.hid hBAD
              have hTOKH := Lib.hid hTOK
              have h61H := Lib.hid h61
              have h33H := Lib.hid h33
              clear hat hR hw hbl hbl2 hbn hsk h35 CT P1 P2 hnx hmk hBAD hTOK h61 h33
              rcases e1 with _ | _
              · rcases e2 with _ | _
                · rcases e3 with _ | _
                  · have hr := res_bad s hl k (hBADH.out rfl)
                    have hrH := Lib.hid hr
                    clear hBADH hTOKH h61H h33H hle hr
                    go_wp2_with fail
                    refine (LH.out _).mono ?_; rintro e w' ⟨rfl, rfl⟩
                    go_wp2_with fail
                    refine (DH.out _).mono ?_; rintro e w' ⟨rfl, rfl⟩
                    go_wp2_with (at_builtin; go_loud (refine ownT_append1 rfl _ _ rfl (W.heap.size + 1) _ (tks s p) rfl hO2H0.out _ 1 (Tk.mk (s.extract a k) a) rfl (heap_alloc_new _ _) hlen0 hBs0.out.size ?_); intro v1 w2 ho1 hg1 hb1 hat1)
                    rw [hsnoc0.out] at ho1
                    have hT2 := tl_new ho1
                    have hB2 := Lib.hid (hBs0.out.trans' hb1)
                    obtain ⟨⟨a2, c2, rfl⟩, hO3⟩ := hT2
                    clear ho1 hg1 hb1 hat1 hsnoc0 hlen0 hO2H0 hBs0
                    refine (CTH.out _).mono ?_; rintro e w' ⟨rfl, rfl⟩
                    go_wp2_with fail
                    refine (P1H.out _).mono ?_; rintro e w' ⟨rfl, rfl⟩
                    go_wp2_with fail
                    refine (P2H.out _).mono ?_; rintro e w' ⟨rfl, rfl⟩
                    obtain ⟨r0, r1⟩ := hB2.out.cells
                    have f0 := hB2.out.frozen 0
                    have f1 := hB2.out.frozen 1
                    go_wp2_with fail
                    exact lex_end s W _ _ (.slice none 0 0) 3 k hB2.out rfl rfl rfl (by rw [hrH.out.1]; exact ownT_nil _ _) hrH.out.2.1 hrH.out.2.2
                  · have hr := Lib.hid (hTOKH.out 1 rfl (by decide))
                    clear hBADH hTOKH h61H h33H hle
                    go_wp2_with fail
                    refine (LH.out _).mono ?_; rintro e w' ⟨rfl, rfl⟩
                    go_wp2_with fail
                    refine (DH.out _).mono ?_; rintro e w' ⟨rfl, rfl⟩
                    go_wp2_with (at_builtin; go_loud (refine ownT_append1 rfl _ _ rfl (W.heap.size + 1) _ (tks s p) rfl hO2H0.out _ 1 (Tk.mk (s.extract a k) a) rfl (heap_alloc_new _ _) hlen0 hBs0.out.size ?_); intro v1 w2 ho1 hg1 hb1 hat1)
                    rw [hsnoc0.out] at ho1
                    have hT2 := tl_new ho1
                    have hB2 := Lib.hid (hBs0.out.trans' hb1)
                    obtain ⟨⟨a2, c2, rfl⟩, hO3⟩ := hT2
                    clear ho1 hg1 hb1 hat1 hsnoc0 hlen0 hO2H0 hBs0
                    refine (CTH.out _).mono ?_; rintro e w' ⟨rfl, rfl⟩
                    go_wp2_with fail
                    refine (P1H.out _).mono ?_; rintro e w' ⟨rfl, rfl⟩
                    go_wp2_with fail
                    refine (P2H.out _).mono ?_; rintro e w' ⟨rfl, rfl⟩
                    have hlen : (tks s p2).length + 1 ≤ 100000000 := by rw [tks_len]; omega
                    have hBs := Lib.hid (hB2.out.alloc (.cells #[.string (s.extract k (k + 1)), .int .i64 k] 170))
                    have hO2H := Lib.hid (hO3.out.alloc (.cells #[.string (s.extract k (k + 1)), .int .i64 k] 170))
                    have hsnoc := Lib.hid (tks_snoc s p2 k (k + 1))
                    clear hO3
                    go_wp2_with (at_builtin; go_loud (refine ownT_append1 rfl _ _ rfl (W.heap.size + 1) _ (tks s p2) rfl hO2H.out _ 1 (Tk.mk (s.extract k (k + 1)) k) rfl (heap_alloc_new _ _) hlen hBs.out.size ?_); intro v2 w3 ho1 hg1 hb1 hat1)
                    rw [hsnoc.out] at ho1
                    have hT4 := tl_new ho1
                    have hB4 := Lib.hid (hBs.out.trans' hb1)
                    obtain ⟨⟨a3, c3, rfl⟩, hO4⟩ := hT4
                    have hlp2 : (p2 ++ [(k, k + 1)]).length = p2.length + 1 := by simp
                    generalize p2 ++ [(k, k + 1)] = p3 at *
                    clear ho1 hg1 hb1 hat1 hsnoc hlen hO2H hBs
                    go_wp2_with fail
                    go_roundw
                    case rel => first | exact ⟨k + 1, p3, .plain, -1, false, by omega, Lib.hid (by show p3.length ≤ k + 1; omega), Lib.hid (.inl ⟨rfl, rfl, rfl⟩), by go_num, rfl, rfl, ⟨⟨_, _, rfl⟩, hO4⟩, hr, hB4⟩ | ((repeat apply Exists.intro); exact ⟨⟨k + 1, p3, .plain, -1, false, by omega, Lib.hid (by show p3.length ≤ k + 1; omega), Lib.hid (.inl ⟨rfl, rfl, rfl⟩), by go_num, rfl, rfl, ⟨⟨_, _, rfl⟩, hO4⟩, hr, hB4⟩, rfl⟩)
                    case measure => simp [intOf]; omega
                · obtain rfl : e3 = false := h33H.out rfl
                  have hr := Lib.hid (hTOKH.out 2 rfl (by decide))
                  have hk2 : k + 2 ≤ s.size := by simp at hle; omega
                  clear hBADH hTOKH h61H h33H hle
                  go_wp2_with fail
                  refine (LH.out _).mono ?_; rintro e w' ⟨rfl, rfl⟩
                  go_wp2_with fail
                  refine (DH.out _).mono ?_; rintro e w' ⟨rfl, rfl⟩
                  go_wp2_with (at_builtin; go_loud (refine ownT_append1 rfl _ _ rfl (W.heap.size + 1) _ (tks s p) rfl hO2H0.out _ 1 (Tk.mk (s.extract a k) a) rfl (heap_alloc_new _ _) hlen0 hBs0.out.size ?_); intro v1 w2 ho1 hg1 hb1 hat1)
                  rw [hsnoc0.out] at ho1
                  have hT2 := tl_new ho1
                  have hB2 := Lib.hid (hBs0.out.trans' hb1)
                  obtain ⟨⟨a2, c2, rfl⟩, hO3⟩ := hT2
                  clear ho1 hg1 hb1 hat1 hsnoc0 hlen0 hO2H0 hBs0
                  refine (CTH.out _).mono ?_; rintro e w' ⟨rfl, rfl⟩
                  go_wp2_with fail
                  refine (P1H.out _).mono ?_; rintro e w' ⟨rfl, rfl⟩
                  go_wp2_with fail
                  refine (P2H.out _).mono ?_; rintro e w' ⟨rfl, rfl⟩
                  have hlen : (tks s p2).length + 1 ≤ 100000000 := by rw [tks_len]; omega
                  have hBs := Lib.hid (hB2.out.alloc (.cells #[.string (s.extract k (k + 2)), .int .i64 k] 170))
                  have hO2H := Lib.hid (hO3.out.alloc (.cells #[.string (s.extract k (k + 2)), .int .i64 k] 170))
                  have hsnoc := Lib.hid (tks_snoc s p2 k (k + 2))
                  clear hO3
                  go_wp2_with (at_builtin; go_loud (refine ownT_append1 rfl _ _ rfl (W.heap.size + 1) _ (tks s p2) rfl hO2H.out _ 1 (Tk.mk (s.extract k (k + 2)) k) rfl (heap_alloc_new _ _) hlen hBs.out.size ?_); intro v2 w3 ho1 hg1 hb1 hat1)
                  rw [hsnoc.out] at ho1
                  have hT4 := tl_new ho1
                  have hB4 := Lib.hid (hBs.out.trans' hb1)
                  obtain ⟨⟨a3, c3, rfl⟩, hO4⟩ := hT4
                  have hlp2 : (p2 ++ [(k, k + 2)]).length = p2.length + 1 := by simp
                  generalize p2 ++ [(k, k + 2)] = p3 at *
                  clear ho1 hg1 hb1 hat1 hsnoc hlen hO2H hBs
                  go_wp2_with fail
                  go_roundw
                  case rel => first | exact ⟨k + 2, p3, .plain, -1, false, by omega, Lib.hid (by show p3.length ≤ k + 2; omega), Lib.hid (.inl ⟨rfl, rfl, rfl⟩), by go_num, rfl, rfl, ⟨⟨_, _, rfl⟩, hO4⟩, hr, hB4⟩ | ((repeat apply Exists.intro); exact ⟨⟨k + 2, p3, .plain, -1, false, by omega, Lib.hid (by show p3.length ≤ k + 2; omega), Lib.hid (.inl ⟨rfl, rfl, rfl⟩), by go_num, rfl, rfl, ⟨⟨_, _, rfl⟩, hO4⟩, hr, hB4⟩, rfl⟩)
                  case measure => simp [intOf]; omega
              · obtain rfl : e3 = true := h61H.out rfl
                have hr := Lib.hid (hTOKH.out 2 (by simp) (by decide))
                have hk2 : k + 2 ≤ s.size := by simp at hle; omega
                clear hBADH hTOKH h61H h33H hle
                go_wp2_with fail
                refine (LH.out _).mono ?_; rintro e w' ⟨rfl, rfl⟩
                go_wp2_with fail
                refine (DH.out _).mono ?_; rintro e w' ⟨rfl, rfl⟩
                go_wp2_with (at_builtin; go_loud (refine ownT_append1 rfl _ _ rfl (W.heap.size + 1) _ (tks s p) rfl hO2H0.out _ 1 (Tk.mk (s.extract a k) a) rfl (heap_alloc_new _ _) hlen0 hBs0.out.size ?_); intro v1 w2 ho1 hg1 hb1 hat1)
                rw [hsnoc0.out] at ho1
                have hT2 := tl_new ho1
                have hB2 := Lib.hid (hBs0.out.trans' hb1)
                obtain ⟨⟨a2, c2, rfl⟩, hO3⟩ := hT2
                clear ho1 hg1 hb1 hat1 hsnoc0 hlen0 hO2H0 hBs0
                refine (CTH.out _).mono ?_; rintro e w' ⟨rfl, rfl⟩
                go_wp2_with fail
                refine (P1H.out _).mono ?_; rintro e w' ⟨rfl, rfl⟩
                have hlen : (tks s p2).length + 1 ≤ 100000000 := by rw [tks_len]; omega
                have hBs := Lib.hid (hB2.out.alloc (.cells #[.string (s.extract k (k + 2)), .int .i64 k] 170))
                have hO2H := Lib.hid (hO3.out.alloc (.cells #[.string (s.extract k (k + 2)), .int .i64 k] 170))
                have hsnoc := Lib.hid (tks_snoc s p2 k (k + 2))
                clear hO3
                go_wp2_with (at_builtin; go_loud (refine ownT_append1 rfl _ _ rfl (W.heap.size + 1) _ (tks s p2) rfl hO2H.out _ 1 (Tk.mk (s.extract k (k + 2)) k) rfl (heap_alloc_new _ _) hlen hBs.out.size ?_); intro v2 w3 ho1 hg1 hb1 hat1)
                rw [hsnoc.out] at ho1
                have hT4 := tl_new ho1
                have hB4 := Lib.hid (hBs.out.trans' hb1)
                obtain ⟨⟨a3, c3, rfl⟩, hO4⟩ := hT4
                have hlp2 : (p2 ++ [(k, k + 2)]).length = p2.length + 1 := by simp
                generalize p2 ++ [(k, k + 2)] = p3 at *
                clear ho1 hg1 hb1 hat1 hsnoc hlen hO2H hBs
                go_wp2_with fail
                go_roundw
                case rel => first | exact ⟨k + 2, p3, .plain, -1, false, by omega, Lib.hid (by show p3.length ≤ k + 2; omega), Lib.hid (.inl ⟨rfl, rfl, rfl⟩), by go_num, rfl, rfl, ⟨⟨_, _, rfl⟩, hO4⟩, hr, hB4⟩ | ((repeat apply Exists.intro); exact ⟨⟨k + 2, p3, .plain, -1, false, by omega, Lib.hid (by show p3.length ≤ k + 2; omega), Lib.hid (.inl ⟨rfl, rfl, rfl⟩), by go_num, rfl, rfl, ⟨⟨_, _, rfl⟩, hO4⟩, hr, hB4⟩, rfl⟩)
                case measure => simp [intOf]; omega
        · have hN : Hid (ro s = R.app p (lx (.word a) (k + 1) ((lst s).drop (k + 1)))) := Lib.hid (by rw [hR.out, hat, lx, if_pos hw])
          rw [hw] at hwd
          clear hw hat hR
          generalize ltr s[k] = b1 at *
          generalize dgt s[k] = b2 at *
          have LH := Lib.hid L
          have DH := Lib.hid D
          clear L D
          rcases b1 with _ | _
          · obtain rfl : b2 = true := by simpa using hwd.symm
            clear hwd
            go_wp2_with fail
            refine (LH.out _).mono ?_; rintro e w' ⟨rfl, rfl⟩
            go_wp2_with fail
            refine (DH.out _).mono ?_; rintro e w' ⟨rfl, rfl⟩
            go_wp2_with fail
            go_roundw
            case rel => first | exact ⟨k + 1, p, (.word a), a, false, by omega, Lib.hid (by show p.length ≤ a; omega), Lib.hid (.inr (.inr ⟨a, rfl, by omega, rfl, rfl⟩)), by go_num, rfl, rfl, ⟨⟨_, _, rfl⟩, hO⟩, hN, hB⟩ | ((repeat apply Exists.intro); exact ⟨⟨k + 1, p, (.word a), a, false, by omega, Lib.hid (by show p.length ≤ a; omega), Lib.hid (.inr (.inr ⟨a, rfl, by omega, rfl, rfl⟩)), by go_num, rfl, rfl, ⟨⟨_, _, rfl⟩, hO⟩, hN, hB⟩, rfl⟩)
            case measure => simp [intOf]; omega
          · clear hwd
            go_wp2_with fail
            refine (LH.out _).mono ?_; rintro e w' ⟨rfl, rfl⟩
            go_wp2_with fail
            go_roundw
            case rel => first | exact ⟨k + 1, p, (.word a), a, false, by omega, Lib.hid (by show p.length ≤ a; omega), Lib.hid (.inr (.inr ⟨a, rfl, by omega, rfl, rfl⟩)), by go_num, rfl, rfl, ⟨⟨_, _, rfl⟩, hO⟩, hN, hB⟩ | ((repeat apply Exists.intro); exact ⟨⟨k + 1, p, (.word a), a, false, by omega, Lib.hid (by show p.length ≤ a; omega), Lib.hid (.inr (.inr ⟨a, rfl, by omega, rfl, rfl⟩)), by go_num, rfl, rfl, ⟨⟨_, _, rfl⟩, hO⟩, hN, hB⟩, rfl⟩)
            case measure => simp [intOf]; omega
    · obtain rfl : k = s.size := by omega
      have hdn : (lst s).drop s.size = [] := List.drop_of_length_le (by rw [lst_len]; exact Nat.le_refl _)
      rw [hdn] at hR
      have hke : ((s.size : Int) == (s.size : Int)) = true := beq_self_eq_true _
      have hsl : ¬ s.size < s.size := Nat.lt_irrefl _
      clear hlt
      rcases hmd.out with ⟨rfl, rfl, rfl⟩ | ⟨rfl, rfl, rfl⟩ | ⟨a, rfl, ha, rfl, rfl⟩
      · have hr := Lib.hid (res_ok s hl p (by rw [hR.out, lx]; simp [R.app]))
        clear hmd hpl0 hR hdn
        go_wp2_with fail
        refine (Chr.good_any _).mono ?_; rintro e w1 ⟨rfl, g⟩
        have hB1 := Lib.hid (hB.out.next g)
        have hO1 := Lib.hid (hO.out.below g)
        obtain ⟨r0, r1⟩ := hB1.out.cells
        have f0 := hB1.out.frozen 0
        have f1 := hB1.out.frozen 1
        clear g
        go_wp2_with fail
        exact lex_end s W _ _ _ 0 (-1) hB1.out rfl rfl rfl (by rw [hr.out.1]; exact hO1.out) hr.out.2.1 hr.out.2.2
      · have hr := Lib.hid (res_ok s hl p (by rw [hR.out, lx]; simp [R.app]))
        clear hmd hpl0 hR hdn
        go_wp2_with fail
        refine (Chr.good_any _).mono ?_; rintro e w1 ⟨rfl, g⟩
        have hB1 := Lib.hid (hB.out.next g)
        have hO1 := Lib.hid (hO.out.below g)
        obtain ⟨r0, r1⟩ := hB1.out.cells
        have f0 := hB1.out.frozen 0
        have f1 := hB1.out.frozen 1
        clear g
        go_wp2_with fail
        exact lex_end s W _ _ _ 0 (-1) hB1.out rfl rfl rfl (by rw [hr.out.1]; exact hO1.out) hr.out.2.1 hr.out.2.2
      · have hpl : p.length ≤ a := hpl0.out
        have j1 : (0 : Int) ≤ (a : Int) := by omega
        have j2 : (a : Int) ≤ (s.size : Int) := by omega
        have hr := Lib.hid (res_ok s hl (p ++ [(a, s.size)]) (by rw [hR.out, lx]; simp [R.app]))
        clear hmd hpl0 hR hdn
        have hlen : (tks s p).length + 1 ≤ 100000000 := by rw [tks_len]; omega
        have hBs := Lib.hid (hB.out.alloc (.cells #[.string (s.extract a (s.size)), .int .i64 a] 170))
        have hO2H := Lib.hid (hO.out.alloc (.cells #[.string (s.extract a (s.size)), .int .i64 a] 170))
        have hsnoc := Lib.hid (tks_snoc s p a (s.size))
        clear hO
        go_wp2_with (at_builtin; go_loud (refine ownT_append1 rfl _ _ rfl (W.heap.size + 1) _ (tks s p) rfl hO2H.out _ 1 (Tk.mk (s.extract a (s.size)) a) rfl (heap_alloc_new _ _) hlen hBs.out.size ?_); intro v1 w2 ho1 hg1 hb1 hat1)
        rw [hsnoc.out] at ho1
        have hT2 := tl_new ho1
        have hB2 := Lib.hid (hBs.out.trans' hb1)
        obtain ⟨⟨a2, c2, rfl⟩, hO3⟩ := hT2
        have hlp : (p ++ [(a, s.size)]).length = p.length + 1 := by simp
        generalize p ++ [(a, s.size)] = p2 at *
        clear ho1 hg1 hb1 hat1 hsnoc hlen hO2H hBs
        clear hlp
        go_wp2_with fail
        refine (Chr.good_any _).mono ?_; rintro e w3 ⟨rfl, g⟩
        have hB1 := Lib.hid (hB2.out.next g)
        have hO1 := Lib.hid (hO3.out.below g)
        obtain ⟨r0, r1⟩ := hB1.out.cells
        have f0 := hB1.out.frozen 0
        have f1 := hB1.out.frozen 1
        clear g
        go_wp2_with fail
        exact lex_end s W _ _ _ 0 (-1) hB1.out rfl rfl rfl (by rw [hr.out.1]; exact hO1.out) hr.out.2.1 hr.out.2.2
end Go.Proofs.YtkopjmofdnlplaaGreatDoor.Lex
