/-
  PROVED HERE: the contract of the document's Borders. Conditions: as each theorem states.
-/
import Derived.Test.YtifnochpmlllgaaDoorAllD
namespace Go.Proofs.YtifnochpmlllgaaDoor.All
open Go.RowKit
def bq (p : ByteArray) (q : Nat) : List Int := (List.range q).map fun j => bv p (j + 1)
theorem bq_len (p : ByteArray) (q : Nat) : (bq p q).length = q := by simp [bq]
theorem bq_succ (p : ByteArray) (q : Nat) : bq p (q + 1) = bq p q ++ [bv p (q + 1)] := by simp [bq, List.range_succ]
theorem ends_eq (p : ByteArray) (k n : Nat) (hk : k ≤ n) (hn : n ≤ p.size) : ((p.extract 0 k).toList == (p.extract (n - k) n).toList) = decide (mt p p k n) := by
  rw [list_eq, decide_eq_decide]
  have z1 : (p.extract 0 k).size = k := by rw [ByteArray.size_extract]; omega
  have z2 : (p.extract (n - k) n).size = k := by rw [ByteArray.size_extract]; omega
  unfold mt
  constructor
  · intro e
    refine ⟨hk, fun j hj => ?_⟩
    have h1 := byteAt_extract p 0 k j (by omega) (by omega)
    have h2 := byteAt_extract p (n - k) n j (by omega) hn
    rw [e, h2, Nat.zero_add] at h1
    exact h1.symm
  · rintro ⟨_, h⟩
    refine ba_ext _ _ (by omega) fun j hj => ?_
    rw [byteAt_extract p 0 k j (by omega) (by omega), byteAt_extract p (n - k) n j (by omega) hn, Nat.zero_add]
    exact h j (by omega)
def Go_ (p : ByteArray) (W : World) (v iv : Value) (wr : World) : Prop :=
  ∃ q : Nat, q ≤ p.size ∧ iv = .int .i64 ((q : Int) + 1) ∧ (∃ a c, v = .slice a (bq p q).length c) ∧ Hid (Own wr W.heap.size 3 v (i64s (bq p q))) ∧ Hid (Below W.heap.size W wr)
def Gi (p : ByteArray) (q : Nat) (W : World) (v : Value) (kv : Value) (wr : World) : Prop :=
  ∃ k : Nat, k ≤ q ∧ kv = .int .i64 k ∧ Hid (lg p p (q + 1) q = lg p p (q + 1) k) ∧ Hid (Own wr W.heap.size 3 v (i64s (bq p q))) ∧ Hid (Below W.heap.size W wr)
set_option maxRecDepth 100000 in
set_option maxHeartbeats 2000000 in
theorem docBorders_any (p : ByteArray) (hp : p.size ≤ 1000) (W : World) :
    Calls Tryd.prog 60 #[.string p] W fun e w' => ∃ v, e = .returned v ∧ Ints w' v (bl p) ∧ Below W.heap.size W w' := by
  go_enter Tryd.func60, Tryd.ntmps60
  go_wp2_with fail
  go_loopw [3, 4] (fun v i wr => Go_ p W v i wr) (fun _ i _ => p.size + 1 - (intOf i).toNat)
  case atStart => exact ⟨0, Nat.zero_le _, rfl, ⟨none, 0, rfl⟩, Lib.hid (own_nil _ _ _), Lib.hid (Below.refl _ _)⟩
  case round =>
    obtain ⟨q, hq, rfl, ⟨a, cap, rfl⟩, ho0, hB0⟩ := hrel
    have hll := bq_len p q
    by_cases hlt : q < p.size
    · have r1 : (q : Int) + 1 ≤ (p.size : Int) := by omega
      go_wp2_with fail
      go_loopw [5] (fun k wr => Gi p q W (.slice a (bq p q).length cap) k wr) (fun k _ => (intOf k).toNat)
      case atStart => exact ⟨q, Nat.le_refl _, by go_num, Lib.hid rfl, ho0, hB0⟩
      case round =>
        obtain ⟨k, hk, rfl, hL, ho, hBH⟩ := hrel
        clear ho0 hB0
        have hsu := Lib.hid (bq_succ p q)
        have hbv : Hid (bv p (q + 1) = (lg p p (q + 1) k : Nat)) := Lib.hid (by
          unfold bv
          rw [if_neg (by omega), show q + 1 - 1 = q by omega, hL.out])
        rcases Nat.eq_zero_or_pos k with rfl | hk0
        · have hv : Hid (bq p (q + 1) = bq p q ++ [0]) := Lib.hid (by rw [hsu.out, hbv.out]; rfl)
          go_wp2_with fail
          go_quiet (fail)
          go_wp2_with (at_builtin; refine own_append1 rfl _ _ 50 rfl W.heap.size 3 (.int .i64 0) 8 Tryd.underlying50 (by kernel_rfl) rfl _ _ rfl ((ho.out.drewN _).alloc _) _ 1 _ rfl (new_cell _ _ _) rfl (by rw [i64s_len]; omega) (by rw [i64s_len]; omega) (le_alloc hBH.out.size _) ?_; intro v1 w2 ho1 hg1 hb1 hat1; have hb2 := below_append (below_drewN hBH.out _) _ hBH.out.size hb1; rw [i64s_snoc, ← hv.out] at ho1; have hB1 := Lib.hid hb2; have ho1H := Lib.hid ho1; clear hg1 hb1 hat1 hb2 ho1)
          go_roundw
          case rel => first | exact ⟨q + 1, by omega, by go_num, (by obtain ⟨a', c', e'⟩ := ho1H.out.len; rw [i64s_len] at e'; exact ⟨a', c', e'⟩), ho1H, hB1⟩ | ((repeat apply Exists.intro); exact ⟨⟨q + 1, by omega, by go_num, (by obtain ⟨a', c', e'⟩ := ho1H.out.len; rw [i64s_len] at e'; exact ⟨a', c', e'⟩), ho1H, hB1⟩, rfl⟩)
          case measure => simp [intOf]; omega
        · have k0 : (0 : Int) < (k : Int) := by omega
          have k1 : (k : Int) ≤ (p.size : Int) := by omega
          have k2 : (0 : Int) ≤ (q : Int) + 1 - (k : Int) := by omega
          have k3 : (q : Int) + 1 - (k : Int) ≤ (q : Int) + 1 := by omega
          have k4 : ((q : Int) + 1 - (k : Int)).toNat = q + 1 - k := by omega
          have k5 : ((q : Int) + 1).toNat = q + 1 := by omega
          have he := Lib.hid (ends_eq p k (q + 1) (by omega) (by omega))
          by_cases hm : mt p p k (q + 1)
          · have b1 : ((p.extract 0 k).toList == (p.extract (q + 1 - k) (q + 1)).toList) = true := by rw [he.out, decide_eq_true hm]
            have b2 : ((p.extract 0 k).toList != (p.extract (q + 1 - k) (q + 1)).toList) = false := by unfold bne; rw [b1]; rfl
            have hv : Hid (bq p (q + 1) = bq p q ++ [(k : Int)]) := Lib.hid (by
              rw [hsu.out, hbv.out]
              congr 3
              exact lg_eq (Nat.le_refl _) hm (fun j h1 h2 => by omega))
            clear hm
            go_wp2_with fail
            go_quiet (fail)
            go_wp2_with (at_builtin; refine own_append1 rfl _ _ 50 rfl W.heap.size 3 (.int .i64 0) 8 Tryd.underlying50 (by kernel_rfl) rfl _ _ rfl ((ho.out.drewN _).alloc _) _ 1 _ rfl (new_cell _ _ _) rfl (by rw [i64s_len]; omega) (by rw [i64s_len]; omega) (le_alloc hBH.out.size _) ?_; intro v1 w2 ho1 hg1 hb1 hat1; have hb2 := below_append (below_drewN hBH.out _) _ hBH.out.size hb1; rw [i64s_snoc, ← hv.out] at ho1; have hB1 := Lib.hid hb2; have ho1H := Lib.hid ho1; clear hg1 hb1 hat1 hb2 ho1)
            go_roundw
            case rel => first | exact ⟨q + 1, by omega, by go_num, (by obtain ⟨a', c', e'⟩ := ho1H.out.len; rw [i64s_len] at e'; exact ⟨a', c', e'⟩), ho1H, hB1⟩ | ((repeat apply Exists.intro); exact ⟨⟨q + 1, by omega, by go_num, (by obtain ⟨a', c', e'⟩ := ho1H.out.len; rw [i64s_len] at e'; exact ⟨a', c', e'⟩), ho1H, hB1⟩, rfl⟩)
            case measure => simp [intOf]; omega
          · have b1 : ((p.extract 0 k).toList == (p.extract (q + 1 - k) (q + 1)).toList) = false := by rw [he.out, decide_eq_false hm]
            have b2 : ((p.extract 0 k).toList != (p.extract (q + 1 - k) (q + 1)).toList) = true := by unfold bne; rw [b1]; rfl
            have hL2 : Hid (lg p p (q + 1) q = lg p p (q + 1) (k - 1)) := Lib.hid (by
              rw [hL.out]
              obtain ⟨t, rfl⟩ : ∃ t, k = t + 1 := ⟨k - 1, by omega⟩
              rw [lg, if_neg hm]; rfl)
            clear hm
            go_wp2_with fail
            go_quiet (fail)
            go_wp2_with fail
            go_roundw
            case rel => exact ⟨k - 1, by omega, by go_num, hL2, Lib.hid ho.out, Lib.hid (below_drewN hBH.out _)⟩
            case measure => simp [intOf]; omega
    · obtain rfl : q = p.size := by omega
      have r1 : ¬ ((p.size : Int) + 1 ≤ (p.size : Int)) := by omega
      have hbl : Hid (bl p = bq p p.size) := Lib.hid rfl
      go_wp2_with fail
      go_ret
      have hi0 := ho0.out.ints
      rw [bq_len] at hi0
      exact ⟨_, rfl, by rw [hbl.out]; exact hi0, hB0.out⟩
end Go.Proofs.YtifnochpmlllgaaDoor.All
