/-
  PROVED HERE: the contract of lex's Lex. Conditions: as each theorem states.
-/
import Derived.Test.YtofmheeiplagjaaGreatDoorLexD
import Derived.Test.YtofmheeiplagjaaGreatDoorTok
import Derived.Test.YtofmheeiplagjaaGreatDoorErrB
namespace Go.Proofs.YtofmheeiplagjaaGreatDoor.Lex
open Go.RowKit
def tks (s : ByteArray) (l : List (Nat × Nat)) : List Tk := l.map fun p => ⟨s.extract p.1 p.2, p.1⟩
theorem tks_len (s : ByteArray) (l : List (Nat × Nat)) : (tks s l).length = l.length := by simp [tks]
theorem tks_snoc (s : ByteArray) (l : List (Nat × Nat)) (a b : Nat) : tks s l ++ [⟨s.extract a b, a⟩] = tks s (l ++ [(a, b)]) := by simp [tks]
def ro (s : ByteArray) : R := lx .plain 0 (lst s)
def rl (s : ByteArray) : List Tk := if 3000 < s.size then [] else match ro s with | .ok l => tks s l | .bad _ => []
def rc (s : ByteArray) : Int := if 3000 < s.size then 4 else match ro s with | .ok _ => 0 | .bad _ => 3
def rp (s : ByteArray) : Int := if 3000 < s.size then -1 else match ro s with | .ok _ => -1 | .bad i => (i : Int)
def PX (s : ByteArray) (W : World) (e : Ending) (w' : World) : Prop := ∃ v x, e = .returned (.tuple #[v, x]) ∧ Tks w' v (rl s) ∧ Err.ErrIs w' x (rc s) (rp s) ∧ Below W.heap.size W w' ∧ (rc s = 0 → x = .nilIface)
def TL (s : ByteArray) (wr : World) (B : Nat) (v : Value) (p : List (Nat × Nat)) : Prop := (∃ a c, v = .slice a p.length c) ∧ Hid (OwnT wr B v (tks s p))
def PR (s : ByteArray) (W : World) (v i : Value) (wr : World) : Prop :=
  ∃ (k : Nat) (p : List (Nat × Nat)), k ≤ s.size ∧ p.length ≤ k ∧ i = .int .i64 k ∧ TL s wr W.heap.size v p ∧ Hid (ro s = R.app p (lx .plain k ((lst s).drop k))) ∧ Hid (Below W.heap.size W wr)
theorem tl_new {s : ByteArray} {wr : World} {B : Nat} {v : Value} {p : List (Nat × Nat)} (h : OwnT wr B v (tks s p)) : TL s wr B v p := by
  obtain ⟨a, c, e⟩ := h.len
  rw [tks_len] at e
  exact ⟨⟨a, c, e⟩, Lib.hid h⟩
theorem tks_none (w : World) : Tks w (.slice none 0 0) [] := ⟨none, 0, rfl, Nat.le_refl _, fun j hj => absurd hj (Nat.not_lt_zero j)⟩
theorem px_bad (s : ByteArray) (hs : ¬ 3000 < s.size) (W w' : World) (i : Nat) (x : Value) (hr : ro s = .bad i) (hx : Err.ErrIs w' x 3 i) (hb : Below W.heap.size W w') : PX s W (.returned (.tuple #[.slice none 0 0, x])) w' := by
  refine ⟨_, _, rfl, ?_, ?_, hb, fun h0 => ?_⟩
  · unfold rl
    rw [if_neg hs, hr]
    exact tks_none _
  · unfold rc rp
    rw [if_neg hs, if_neg hs, hr]
    exact hx
  · unfold rc at h0
    rw [if_neg hs, hr] at h0
    exact absurd h0 (show ¬ (3 : Int) = 0 by decide)
theorem px_ok (s : ByteArray) (hs : ¬ 3000 < s.size) (W w' : World) (v : Value) (p : List (Nat × Nat)) (hr : ro s = .ok p) (hv : Tks w' v (tks s p)) (hb : Below W.heap.size W w') : PX s W (.returned (.tuple #[v, .nilIface])) w' := by
  refine ⟨_, _, rfl, ?_, ?_, hb, fun _ => rfl⟩
  · unfold rl
    rw [if_neg hs, hr]
    exact hv
  · unfold rc rp
    rw [if_neg hs, if_neg hs, hr]
    exact .inl ⟨rfl, rfl, rfl⟩
theorem px_long (s : ByteArray) (hs : 3000 < s.size) (W w' : World) (hb : Below W.heap.size W w') : PX s W (.returned (.tuple #[.slice none 0 0, .iface 25 (.int .i64 4)])) w' := by
  refine ⟨_, _, rfl, ?_, ?_, hb, fun h0 => ?_⟩
  · unfold rl
    rw [if_pos hs]
    exact tks_none _
  · unfold rc rp
    rw [if_pos hs, if_pos hs]
    exact .inr (.inl ⟨rfl, rfl⟩)
  · unfold rc at h0
    rw [if_pos hs] at h0
    exact absurd h0 (by decide)
theorem blk_of (c : UInt8) : blk c = decide (c.toNat = 32 ∨ c.toNat = 10 ∨ c.toNat = 9) := of_all (p := blk) (q := fun c => decide (c.toNat = 32 ∨ c.toNat = 10 ∨ c.toNat = 9)) (by decide +kernel) c
set_option maxRecDepth 100000 in
set_option maxHeartbeats 4000000 in
theorem lex_any (s : ByteArray) (hs : s.size ≤ 4000) (W : World) (hm : HomeM W) : Calls Tryz.prog 55 #[.string s] W (PX s W) := by
  by_cases hl : 3000 < s.size
  · clear hm
    go_enter Tryz.func55, Tryz.ntmps55
    go_wp2_with fail
    go_ret2
    exact px_long s hl W _ (Below.refl _ _)
  have HM := Lib.hid hm
  clear hm
  go_enter Tryz.func55, Tryz.ntmps55
  go_wp2_with fail
  go_loopw [4, 5] (fun v i wr => PR s W v i wr) (fun _ i _ => s.size - (intOf i).toNat)
  case atStart => exact ⟨0, [], Nat.zero_le _, Nat.le_refl _, rfl, tl_new (ownT_nil _ _), Lib.hid (by rw [R.app_nil, List.drop_zero]; rfl), Lib.hid (Below.refl _ _)⟩
  case round =>
    obtain ⟨k, p, hk, hpk, rfl, hTL, hR, hB⟩ := hrel
    by_cases hlt : k < s.size
    · have i1 : (0 : Int) ≤ (k : Int) := by omega
      have i2 : (k : Int) < (s.size : Int) := by omega
      have hat := lst_at s k hlt
      by_cases hbl : blk s[k] = true
      · have hN : Hid (ro s = R.app p (lx .plain (k + 1) ((lst s).drop (k + 1)))) := Lib.hid (by rw [hR.out, hat, lx_blank _ _ _ hbl])
        rw [blk_of] at hbl
        simp only [decide_eq_true_eq] at hbl
        clear hat hR
        rcases hbl with h | h | h
        · have b32 := byte_eq s[k].toNat 32 (by omega)
          clear h
          go_wp2_with fail
          go_roundw
          case rel => first | exact ⟨k + 1, p, by omega, by omega, by go_num, hTL, hN, hB⟩ | ((repeat apply Exists.intro); exact ⟨⟨k + 1, p, by omega, by omega, by go_num, hTL, hN, hB⟩, rfl⟩)
          case measure => simp [intOf]; omega
        · have b32 := byte_ne s[k].toNat 32 (by omega)
          have b10 := byte_eq s[k].toNat 10 (by omega)
          clear h
          go_wp2_with fail
          go_roundw
          case rel => first | exact ⟨k + 1, p, by omega, by omega, by go_num, hTL, hN, hB⟩ | ((repeat apply Exists.intro); exact ⟨⟨k + 1, p, by omega, by omega, by go_num, hTL, hN, hB⟩, rfl⟩)
          case measure => simp [intOf]; omega
        · have b32 := byte_ne s[k].toNat 32 (by omega)
          have b10 := byte_ne s[k].toNat 10 (by omega)
          have b9 := byte_eq s[k].toNat 9 (by omega)
          clear h
          go_wp2_with fail
          go_roundw
          case rel => first | exact ⟨k + 1, p, by omega, by omega, by go_num, hTL, hN, hB⟩ | ((repeat apply Exists.intro); exact ⟨⟨k + 1, p, by omega, by omega, by go_num, hTL, hN, hB⟩, rfl⟩)
          case measure => simp [intOf]; omega
      · have hbl2 : blk s[k] = false := by simpa using hbl
        have hbn := hbl2
        rw [blk_of] at hbn
        simp only [decide_eq_false_iff_not] at hbn
        have b32 := byte_ne s[k].toNat 32 (by omega)
        have b10 := byte_ne s[k].toNat 10 (by omega)
        have b9 := byte_ne s[k].toNat 9 (by omega)
        by_cases h35 : s[k].toNat = 35
        · have b35 := byte_eq s[k].toNat 35 (by omega)
          have hsk : s[k] = 35 := UInt8.toNat_inj.1 h35
          have hH : Hid (lx .plain k ((lst s).drop k) = lx .remark k ((lst s).drop k)) := Lib.hid (by rw [hat, hsk]; exact lx_hash _ _)
          have hk10 : s[k].toNat ≠ 10 := by omega
          clear hbl hbl2 hbn hat hsk h35
          go_wp2_with fail
          go_loop [5] (fun i => ∃ j : Nat, k ≤ j ∧ j ≤ s.size ∧ i = .int .i64 j ∧ Hid (lx .plain k ((lst s).drop k) = lx .remark j ((lst s).drop j))) (fun i => s.size - (intOf i).toNat)
          case atStart => exact ⟨k, Nat.le_refl _, by omega, rfl, hH⟩
          case round =>
            obtain ⟨j, hkj, hj, rfl, hJ⟩ := hrel
            by_cases hjl : j < s.size
            · have hat := lst_at s j hjl
              have j1 : (0 : Int) ≤ (j : Int) := by omega
              have j2 : (j : Int) < (s.size : Int) := by omega
              by_cases hn : s[j].toNat = 10
              · have hne : j ≠ k := fun e => by subst e; exact hk10 hn
                have hsj : s[j] = 10 := UInt8.toNat_inj.1 hn
                have hN : Hid (ro s = R.app p (lx .plain j ((lst s).drop j))) := Lib.hid (by rw [hR.out, hJ.out, hat, hsj, lx_line])
                have bn : ((s[j].toNat : Int) != 10) = false := by rw [bne_eq_false_iff_eq]; omega
                clear hat hsj hn hJ
                go_wp2_with fail
                go_roundw
                case rel => first | exact ⟨j, p, by omega, by omega, rfl, hTL, hN, hB⟩ | ((repeat apply Exists.intro); exact ⟨⟨j, p, by omega, by omega, rfl, hTL, hN, hB⟩, rfl⟩)
                case measure => simp [intOf]; omega
              · have hn2 : s[j] ≠ 10 := fun e => hn (by rw [e]; rfl)
                have hN : Hid (lx .plain k ((lst s).drop k) = lx .remark (j + 1) ((lst s).drop (j + 1))) := Lib.hid (by rw [hJ.out, hat, lx, if_neg hn2])
                have bn : ((s[j].toNat : Int) != 10) = true := by rw [bne_iff_ne]; omega
                clear hat hn2 hn hJ
                go_wp2_with fail
                go_round
                case rel => exact ⟨j + 1, by omega, by omega, by go_num, hN⟩
                case measure => simp [intOf]; omega
            · obtain rfl : j = s.size := by omega
              have hN : Hid (ro s = R.app p (lx .plain s.size ((lst s).drop s.size))) := Lib.hid (by rw [hR.out, hJ.out, List.drop_of_length_le (by rw [lst_len]; exact Nat.le_refl _), lx, lx])
              clear hJ
              go_wp2_with fail
              go_roundw
              case rel => first | exact ⟨s.size, p, by omega, by omega, rfl, hTL, hN, hB⟩ | ((repeat apply Exists.intro); exact ⟨⟨s.size, p, by omega, by omega, rfl, hTL, hN, hB⟩, rfl⟩)
              case measure => simp [intOf]; omega
        · have b35 := byte_ne s[k].toNat 35 (by omega)
          have hsk : s[k] ≠ 35 := fun e => h35 (by rw [e]; rfl)
          have hus : (s.extract k s.size).size = s.size - k := by rw [ByteArray.size_extract]; omega
          have NX := next_any (s.extract k s.size) (by omega) (by omega) _ (HM.out.below (hB.out))
          rw [lst_drop] at NX
          have hle := nx_le ((lst s).drop k)
          rw [List.length_drop, lst_len] at hle
          have hBAD : nx ((lst s).drop k) = 0 → ro s = .bad k := fun h => by
            rw [hat] at h
            rw [hR.out, hat, lx_bad _ _ _ hbl2 hsk h]
            rfl
          have hTOK : 0 < nx ((lst s).drop k) → ro s = R.app (p ++ [(k, k + nx ((lst s).drop k))]) (lx .plain (k + nx ((lst s).drop k)) ((lst s).drop (k + nx ((lst s).drop k)))) := fun h => by
            rw [hat] at h
            rw [hR.out, ← R.app_app]
            conv => lhs; rw [hat, lx_token _ _ _ hbl2 hsk h]
            rw [← hat, List.drop_drop]
          generalize nx ((lst s).drop k) = n at *
          have NXH := Lib.hid NX
          have hBADH := Lib.hid hBAD
          have hTOKH := Lib.hid hTOK
          clear hbl hbl2 hbn hat hsk h35 hus hR hBAD hTOK NX
          by_cases hn : n = 0
          · subst hn
            have hr := Lib.hid (hBADH.out rfl)
            clear hBADH hTOKH
            go_wp2_with fail
            refine (NXH.out).mono ?_; rintro e w' ⟨rfl, rfl⟩
            go_wp2_with fail
            go_ret2
            exact px_bad s hl W _ k _ hr.out (.inr (.inr ⟨_, 0, rfl, by simp, by simp⟩)) (hB.out.alloc hB.out.size _)
          · have hr := Lib.hid (hTOKH.out (by omega))
            have hb0 : ((n : Int) == 0) = false := by rw [beq_eq_false_iff_ne]; omega
            clear hBADH hTOKH
            obtain ⟨⟨a0, c0, rfl⟩, hO⟩ := hTL
            have hO2 := hO.out.alloc (.cells #[.string (s.extract k (k + n)), .int .i64 k] 104)
            go_wp2_with fail
            refine (NXH.out).mono ?_; rintro e w' ⟨rfl, rfl⟩
            have hlen : (tks s p).length + 1 ≤ 100000000 := by rw [tks_len]; omega
            have hBs := Lib.hid (hB.out.alloc hB.out.size (.cells #[.string (s.extract k (k + n)), .int .i64 k] 104))
            have hO2H := Lib.hid hO2
            have hsnoc := Lib.hid (tks_snoc s p k (k + n))
            clear hO2 hO
            go_wp2_with (at_builtin; go_loud (refine ownT_append1 rfl _ _ rfl W.heap.size _ (tks s p) rfl hO2H.out _ 1 (Tk.mk (s.extract k (k + n)) k) rfl (heap_alloc_new _ _) hlen hBs.out.size ?_); intro v1 w2 ho1 hg1 hb1 hat1)
            rw [hsnoc.out] at ho1
            have hT2 := tl_new ho1
            have hB2 := Lib.hid (hBs.out.trans hb1)
            obtain ⟨⟨a2, c2, rfl⟩, hO3⟩ := hT2
            have hT3 : TL s w2 W.heap.size (.slice a2 (p ++ [(k, k + n)]).length c2) (p ++ [(k, k + n)]) := ⟨⟨_, _, rfl⟩, hO3⟩
            have hlp : (p ++ [(k, k + n)]).length ≤ k + n := by simp; omega
            generalize p ++ [(k, k + n)] = p2 at *
            clear ho1 hg1 hb1 hat1 hsnoc hlen
            go_wp2_with fail
            go_roundw
            case rel => first | exact ⟨k + n, p2, by omega, hlp, by go_num, hT3, hr, hB2⟩ | ((repeat apply Exists.intro); exact ⟨⟨k + n, p2, by omega, hlp, by go_num, hT3, hr, hB2⟩, rfl⟩)
            case measure => simp [intOf]; omega
    · obtain rfl : k = s.size := by omega
      have hr : ro s = .ok p := by
        rw [hR.out, List.drop_of_length_le (by rw [lst_len]; exact Nat.le_refl _), lx]
        simp [R.app]
      have hrH := Lib.hid hr
      obtain ⟨⟨a0, c0, rfl⟩, hO⟩ := hTL
      clear hR hr
      go_wp2_with fail
      go_ret2
      exact px_ok s hl W _ _ p hrH.out hO.out.tks hB.out
end Go.Proofs.YtofmheeiplagjaaGreatDoor.Lex
