/-
  PROVED HERE: how long the longest beginning of a pattern is that ends at a place, as one function; the contract of find.borders. Conditions: as each theorem states.
-/
import Derived.Test.YtifnochpmlllgaaDoorOwn
import Derived.Test.YtifnochpmlllgaaDoorFdA
import Derived.BigQuiet
import Derived.Deep.QuietTactic
import Derived.StillTailTactics
namespace Go.Proofs.YtifnochpmlllgaaDoor.All
open Go.RowKit

/-- The first k bytes of p end at place i of s. -/
def mt (s p : ByteArray) (k i : Nat) : Prop := k ≤ i ∧ ∀ j, j < k → byteAt p j = byteAt s (i - k + j)
instance (s p : ByteArray) (k i : Nat) : Decidable (mt s p k i) := by unfold mt; infer_instance
theorem mt_zero (s p : ByteArray) (i : Nat) : mt s p 0 i := ⟨Nat.zero_le _, fun j h => absurd h (Nat.not_lt_zero j)⟩
theorem mt_trans {s p : ByteArray} {j k i : Nat} (h1 : mt s p k i) (h2 : mt p p j k) : mt s p j i := by
  refine ⟨Nat.le_trans h2.1 h1.1, fun t ht => ?_⟩
  have a1 := h1.1
  have a2 := h2.1
  rw [h2.2 t ht, h1.2 (k - j + t) (by omega)]
  congr 1; omega
theorem mt_in {s p : ByteArray} {j k i : Nat} (h1 : mt s p k i) (h2 : mt s p j i) (hj : j ≤ k) : mt p p j k := by
  refine ⟨hj, fun t ht => ?_⟩
  have a1 := h1.1
  rw [h2.2 t ht, h1.2 (k - j + t) (by omega)]
  congr 1; omega
theorem mt_succ (s p : ByteArray) (k i : Nat) : mt s p (k + 1) (i + 1) ↔ mt s p k i ∧ byteAt p k = byteAt s i := by
  constructor
  · rintro ⟨h1, h2⟩
    refine ⟨⟨by omega, fun j hj => ?_⟩, ?_⟩
    · have := h2 j (by omega)
      rw [show i + 1 - (k + 1) + j = i - k + j by omega] at this; exact this
    · have := h2 k (by omega)
      rw [show i + 1 - (k + 1) + k = i by omega] at this; exact this
  · rintro ⟨⟨h1, h2⟩, h3⟩
    refine ⟨by omega, fun j hj => ?_⟩
    rw [show i + 1 - (k + 1) + j = i - k + j by omega]
    rcases Nat.lt_succ_iff_lt_or_eq.1 hj with h | rfl
    · exact h2 j h
    · rw [show i - j + j = i by omega]; exact h3
/-- The longest one, of no more than K bytes. -/
def lg (s p : ByteArray) (i : Nat) : Nat → Nat
  | 0 => 0
  | K + 1 => if mt s p (K + 1) i then K + 1 else lg s p i K
theorem lg_le (s p : ByteArray) (i : Nat) : ∀ K, lg s p i K ≤ K
  | 0 => Nat.le_refl _
  | K + 1 => by
    have := lg_le s p i K
    rw [lg]; split <;> omega
theorem lg_mt (s p : ByteArray) (i : Nat) : ∀ K, mt s p (lg s p i K) i
  | 0 => mt_zero s p i
  | K + 1 => by
    rw [lg]; split
    · assumption
    · exact lg_mt s p i K
theorem lg_max (s p : ByteArray) (i : Nat) : ∀ K j, lg s p i K < j → j ≤ K → ¬ mt s p j i
  | 0, j, h1, h2 => by rw [lg] at h1; omega
  | K + 1, j, h1, h2 => by
    rw [lg] at h1
    split at h1
    · omega
    · rcases Nat.lt_succ_iff_lt_or_eq.1 (Nat.lt_succ_of_le h2) with h | rfl
      · exact lg_max s p i K j h1 (by omega)
      · assumption
theorem lg_eq {s p : ByteArray} {i K c : Nat} (hc : c ≤ K) (h : mt s p c i) (hm : ∀ j, c < j → j ≤ K → ¬ mt s p j i) : lg s p i K = c := by
  have h1 := lg_le s p i K
  rcases Nat.lt_trichotomy (lg s p i K) c with h2 | h2 | h2
  · exact absurd h (lg_max s p i K c h2 hc)
  · exact h2
  · exact absurd (lg_mt s p i K) (hm _ h2 h1)
/-- The table's number. -/
def bv (p : ByteArray) (i : Nat) : Int := if i = 0 then -1 else (lg p p i (i - 1) : Nat)
theorem bv_lt (p : ByteArray) (i : Nat) : -1 ≤ bv p i ∧ bv p i < i := by
  unfold bv
  have := lg_le p p i (i - 1)
  split <;> omega
/-- What holds at each step back: every longer one, of fewer than M bytes, can't go on. -/
def kq (s p : ByteArray) (M i : Nat) (z : Int) : Prop := -1 ≤ z ∧ (∀ k : Nat, z = k → k < M ∧ mt s p k i) ∧ ∀ k : Nat, z < k → k < M → mt s p k i → ¬ (k < p.size ∧ byteAt p k = byteAt s i)
theorem kq_step {s p : ByteArray} {M i k : Nat} (h : kq s p M i k) (hn : ¬ (k < p.size ∧ byteAt p k = byteAt s i)) : kq s p M i (bv p k) := by
  obtain ⟨h1, h2, h3⟩ := h
  have hb := bv_lt p k
  obtain ⟨hk, hm⟩ := h2 k rfl
  refine ⟨hb.1, fun j hj => ?_, fun j hj hjM hjm => ?_⟩
  · refine ⟨by omega, ?_⟩
    unfold bv at hj
    split at hj
    · omega
    · obtain rfl : j = lg p p k (k - 1) := by omega
      exact mt_trans hm (lg_mt _ _ _ _)
  · rcases Nat.lt_trichotomy j k with h | rfl | h
    · refine absurd (mt_in hm hjm (by omega)) ?_
      unfold bv at hj
      split at hj
      · omega
      · exact lg_max p p k (k - 1) j (by omega) (by omega)
    · exact hn
    · exact h3 j (by omega) hjM hjm
theorem kq_start_b (p : ByteArray) (i : Nat) : kq p p i i (bv p i) := by
  have hb := bv_lt p i
  refine ⟨hb.1, fun j hj => ⟨by omega, ?_⟩, fun j hj hjM hjm => ?_⟩
  · unfold bv at hj
    split at hj
    · omega
    · obtain rfl : j = lg p p i (i - 1) := by omega
      exact lg_mt _ _ _ _
  · unfold bv at hj
    split at hj
    · omega
    · exact absurd hjm (lg_max p p i (i - 1) j (by omega) (by omega))
theorem kq_start (s p : ByteArray) (i : Nat) : kq s p (p.size + 1) i ((lg s p i p.size : Nat) : Int) := by
  have hb := lg_le s p i p.size
  refine ⟨by omega, fun j hj => ?_, fun j hj hjM hjm => ?_⟩
  · obtain rfl : j = lg s p i p.size := by omega
    exact ⟨by omega, lg_mt _ _ _ _⟩
  · exact absurd hjm (lg_max s p i p.size j (by omega) (by omega))
theorem kq_none {s p : ByteArray} {M i N : Nat} (h : kq s p M i (-1)) (hN : N ≤ M) (hp : N ≤ p.size) : lg s p (i + 1) N = 0 := by
  refine lg_eq (Nat.zero_le _) (mt_zero _ _ _) fun j hj hjN hm => ?_
  obtain ⟨j, rfl⟩ : ∃ t, j = t + 1 := ⟨j - 1, by omega⟩
  have := (mt_succ s p j i).1 hm
  exact h.2.2 j (by omega) (by omega) this.1 ⟨by omega, this.2⟩
theorem kq_hit {s p : ByteArray} {M i k N : Nat} (h : kq s p M i k) (hk : k < p.size ∧ byteAt p k = byteAt s i) (hN : N ≤ M) (hp : N ≤ p.size) (hkN : k + 1 ≤ N) : lg s p (i + 1) N = k + 1 := by
  refine lg_eq hkN ((mt_succ s p k i).2 ⟨(h.2.1 k rfl).2, hk.2⟩) fun j hj hjN hm => ?_
  obtain ⟨j, rfl⟩ : ∃ t, j = t + 1 := ⟨j - 1, by omega⟩
  have := (mt_succ s p j i).1 hm
  exact h.2.2 j (by omega) (by omega) this.1 ⟨by omega, this.2⟩
theorem bv_none {p : ByteArray} {i : Nat} (h : kq p p i i (-1)) (hi : i < p.size) : bv p (i + 1) = 0 := by
  unfold bv
  rw [if_neg (by omega), show i + 1 - 1 = i by omega, kq_none h (Nat.le_refl _) (by omega)]; rfl
theorem bv_hit {p : ByteArray} {i k : Nat} (h : kq p p i i k) (hk : byteAt p k = byteAt p i) (hi : i < p.size) : bv p (i + 1) = (k : Int) + 1 := by
  have := (h.2.1 k rfl).1
  unfold bv
  rw [if_neg (by omega), show i + 1 - 1 = i by omega, kq_hit h ⟨by omega, hk⟩ (Nat.le_refl _) (by omega) (by omega)]; rfl

/-- make([]E, n) of one-cell elements. -/
theorem run_maken {P : Program} (t E : TypeId) (z : Value) (bytes : Nat) (ht : P.underlying t = some (.slice E)) (hinfo : (P.info? E).map (fun i => (i.zero, i.size, i.bytes)) = some (some z, 1, bytes)) (hz1 : z.cells = #[z])
    (kl kc : IntKind) (c : Int) (h0 : 0 ≤ c) (hb : (bytes : Int) * c ≤ 281474976710656) (h63 : c ≤ 9223372036854775807) (w : World) :
    (Instr.makeSlice t (.int kl c) (.int kc c)).run P w = .ok (.slice (some ⟨w.heap.size, 0, none⟩) c.toNat c.toNat) (w.alloc (.cells (madeCells #[z] c.toNat) E)) := by
  obtain ⟨i, hi, hzz⟩ := Option.map_eq_some_iff.1 hinfo
  simp only [Prod.mk.injEq] at hzz
  obtain ⟨hz, hs, hbb⟩ := hzz
  have := run_make (P := P) w t E i z ht hi hz kl kc c c h0 (Int.le_refl _) (by rw [hbb]; exact hb) h63
  rw [hs, hz1, Nat.mul_one] at this
  exact this
def Tb (p : ByteArray) (wr : World) (g : Nat) (L : List Int) (i : Nat) : Prop := Own wr g 3 (.slice (some ⟨g, 0, none⟩) (p.size + 1) (p.size + 1)) (i64s L) ∧ L.length = p.size + 1 ∧ ∀ j, j ≤ i → L.getD j 0 = bv p j
theorem Tb.cell {p : ByteArray} {wr : World} {g i : Nat} {L : List Int} (h : Tb p wr g L i) (j : Nat) (hj : j ≤ p.size) : wr.cell? ⟨g, j, none⟩ = some (.int .i64 (L.getD j 0)) ∧ wr.frozen? ⟨g, j, none⟩ = false := by
  obtain ⟨ho, hl, _⟩ := h
  rcases ho.form with ⟨h0, _⟩ | ⟨g', cap, e, _, _, hc, hf⟩
  · cases h0
  · simp only [Value.slice.injEq, Option.some.injEq, Addr.mk.injEq] at e
    obtain ⟨⟨rfl, _⟩, _⟩ := e
    have hj' : j < (i64s L).length := by rw [i64s_len]; omega
    exact ⟨by rw [hc j hj', i64s_get], hf j⟩
theorem Tb.set {p : ByteArray} {wr : World} {g i : Nat} {L : List Int} (h : Tb p wr g L i) (z : Int) (hi : i < p.size) (hz : z = bv p (i + 1)) : Tb p (wr.setCell ⟨g, i + 1, none⟩ (.int .i64 z)) g (L.set (i + 1) z) (i + 1) := by
  obtain ⟨ho, hl, hv⟩ := h
  refine ⟨?_, by simpa using hl, fun j hj => ?_⟩
  · rw [← i64s_set]
    exact ho.set (i + 1) _
  · simp only [List.getD_eq_getElem?_getD, List.getElem?_set]
    by_cases e : i + 1 = j
    · subst e; simp [hl, hz, hi]
    · have := hv j (by omega)
      rw [List.getD_eq_getElem?_getD] at this
      simp [e, this]
theorem Tb.start (p : ByteArray) (w : World) (hp : p.size ≤ 1000) : Tb p ((w.alloc (.cells (madeCells #[.int .i64 0] (p.size + 1)) 3)).setCell ⟨w.heap.size, 0, none⟩ (.int .i64 (-1))) w.heap.size ((List.replicate (p.size + 1) 0).set 0 (-1)) 0 := by
  refine ⟨?_, by simp, fun j hj => ?_⟩
  · rw [← i64s_set]
    refine Own.set ?_ 0 _
    have this := own_full w w.heap.size 3 (p.size + 1) (.int .i64 0) (Nat.le_refl _) (by omega)
    have e : i64s (List.replicate (p.size + 1) 0) = List.replicate (p.size + 1) (.int .i64 0) := by simp [i64s]
    rw [e]; exact this
  · obtain rfl : j = 0 := by omega
    rw [List.replicate_succ]
    rfl
def Bo (p : ByteArray) (W : World) (kv iv : Value) (wr : World) : Prop :=
  ∃ (i : Nat) (L : List Int) (z : Int), i ≤ p.size ∧ iv = .int .i64 i ∧ kv = .int .i64 z ∧ Hid (z = bv p i) ∧ Hid (Tb p wr W.heap.size L i) ∧ Hid (Below W.heap.size W wr)
def Bi (p : ByteArray) (W : World) (L : List Int) (i : Nat) (kv : Value) (wr : World) : Prop :=
  ∃ z : Int, kv = .int .i64 z ∧ Hid (kq p p i i z) ∧ Hid (Tb p wr W.heap.size L i) ∧ Hid (Below W.heap.size W wr)
set_option maxRecDepth 100000 in
set_option maxHeartbeats 2000000 in
theorem borders_any (p : ByteArray) (hp : p.size ≤ 1000) (W : World) :
    Calls Tryd.prog 99 #[.string p] W fun e w' => ∃ L, e = .returned (.slice (some ⟨W.heap.size, 0, none⟩) (p.size + 1) (p.size + 1)) ∧ Tb p w' W.heap.size L p.size ∧ Below W.heap.size W w' := by
  have hmk := fun W => run_maken (P := Tryd.prog) 50 3 (.int .i64 0) 8 Tryd.underlying50 (by kernel_rfl) rfl .i64 .i64 ((p.size : Int) + 1) (by omega) (by omega) (by omega) W
  rw [show ((p.size : Int) + 1).toNat = p.size + 1 by omega] at hmk
  have hst := Tb.start p W hp
  have heq : (W.alloc (.cells (madeCells #[.int .i64 0] (p.size + 1)) 3)).setCell ⟨W.heap.size, 0, none⟩ (.int .i64 (-1)) = W.alloc (.cells ((madeCells #[.int .i64 0] (p.size + 1)).setIfInBounds 0 (.int .i64 (-1))) 3) := World.setCell_alloc_at _ _ _ _ _ rfl
  rw [heq] at hst
  have q1 : (0 : Int) < (p.size : Int) + 1 := by omega
  have hnew : (W.alloc (.cells (madeCells #[.int .i64 0] (p.size + 1)) 3)).cell? ⟨W.heap.size, 0, none⟩ = some (.int .i64 0) := by
    have h := own_full W W.heap.size 3 (p.size + 1) (.int .i64 0) (Nat.le_refl _) (by omega)
    obtain ⟨g, e, hc⟩ := h.at_ 0 (by simp)
    simp only [Option.some.injEq, Addr.mk.injEq] at e
    obtain ⟨rfl, _⟩ := e
    simpa using hc
  have hstH := Lib.hid hst
  clear hst heq
  go_enter Tryd.func99, Tryd.ntmps99
  go_wp2_with fail
  go_loopw [4, 14] (fun v i wr => Bo p W v i wr) (fun _ i _ => p.size - (intOf i).toNat)
  case atStart => exact ⟨0, _, -1, Nat.zero_le _, rfl, rfl, Lib.hid rfl, hstH, Lib.hid ((Below.refl _ _).alloc (Nat.le_refl _) _)⟩
  case round =>
    obtain ⟨i, L, z0, hi, rfl, rfl, hz0, hT0, hB0⟩ := hrel
    clear hstH hnew hmk q1
    by_cases hlt : i < p.size
    · have hzb := bv_lt p i
      rw [← hz0.out] at hzb
      go_wp2_with fail
      go_loopw [4] (fun v wr => Bi p W L i v wr) (fun v _ => (intOf v + 1).toNat)
      case atStart => exact ⟨z0, rfl, Lib.hid (by rw [hz0.out]; exact kq_start_b p i), hT0, hB0⟩
      case round =>
        obtain ⟨z, rfl, hq, hT, hBH⟩ := hrel
        clear hT0 hB0 hz0 hzb
        have j1 : (0 : Int) ≤ (i : Int) := by omega
        have j2 : (i : Int) < (p.size : Int) := by omega
        have hci := hT.out.cell (i + 1) (by omega)
        have j3 : (0 : Int) ≤ (i : Int) + 1 := by omega
        have j4 : (i : Int) + 1 < (p.size : Int) + 1 := by omega
        obtain ⟨hc1, hf1⟩ := hci
        rcases (show z = -1 ∨ ∃ k : Nat, z = k by have := hq.out.1; rcases Int.lt_or_le z 0 with h | h; · left; omega
                                                  · right; exact ⟨z.toNat, by omega⟩) with rfl | ⟨k, rfl⟩
        · have hV := Lib.hid (bv_none hq.out hlt)
          go_wp2_with fail
          go_quiet (fail)
          go_wp2_with fail
          go_roundw
          case rel => exact ⟨i + 1, L.set (i + 1) 0, 0, by omega, by go_num, rfl, Lib.hid hV.out.symm, Lib.hid (Tb.set (wr := World.drewN _ _) hT.out 0 hlt hV.out.symm), Lib.hid (Below.setCell (below_drewN hBH.out _) (p := ⟨W.heap.size, i + 1, none⟩) (Nat.le_refl _) _)⟩
          case measure => simp [intOf]; omega
        · have hki := (hq.out.2.1 k rfl).1
          have k1 : (0 : Int) ≤ (k : Int) := by omega
          have k2 : (k : Int) < (p.size : Int) := by omega
          have k3 : (k : Int) < (p.size : Int) + 1 := by omega
          have e1 := Lib.hid (byteAt_eq p k (by omega))
          have e2 := Lib.hid (byteAt_eq p i hlt)
          obtain ⟨hc2, _⟩ := hT.out.cell k (by omega)
          rw [hT.out.2.2 k (by omega)] at hc2
          have hkp : k < p.size := by omega
          by_cases heq : p[k].toNat = p[i].toNat
          · have b1 : ((p[k].toNat : Int) == (p[i].toNat : Int)) = true := by rw [beq_iff_eq]; omega
            have b2 : ((p[k].toNat : Int) != (p[i].toNat : Int)) = false := by rw [bne_eq_false_iff_eq]; omega
            have hV := Lib.hid (bv_hit hq.out (by rw [← e1.out, ← e2.out]; exact heq) hlt)
            go_wp2_with fail
            go_quiet (fail)
            go_wp2_with fail
            go_roundw
            case rel => exact ⟨i + 1, L.set (i + 1) ((k : Int) + 1), ((k : Int) + 1), by omega, by go_num, rfl, Lib.hid hV.out.symm, Lib.hid (Tb.set (wr := World.drewN _ _) hT.out ((k : Int) + 1) hlt hV.out.symm), Lib.hid (Below.setCell (below_drewN hBH.out _) (p := ⟨W.heap.size, i + 1, none⟩) (Nat.le_refl _) _)⟩
            case measure => simp [intOf]; omega
          · have b1 : ((p[k].toNat : Int) == (p[i].toNat : Int)) = false := by rw [beq_eq_false_iff_ne]; omega
            have b2 : ((p[k].toNat : Int) != (p[i].toNat : Int)) = true := by rw [bne_iff_ne]; omega
            have hV := Lib.hid (kq_step hq.out (fun h => heq (by rw [e1.out, e2.out]; exact h.2)))
            go_wp2_with fail
            go_quiet (fail)
            go_wp2_with fail
            go_roundw
            case rel => exact ⟨bv p k, rfl, hV, Lib.hid hT.out, Lib.hid (below_drewN hBH.out _)⟩
            case measure => have := bv_lt p k; simp [intOf]; omega
    · obtain rfl : i = p.size := by omega
      go_wp2_with fail
      go_ret
      exact ⟨_, rfl, hT0.out, hB0.out⟩
end Go.Proofs.YtifnochpmlllgaaDoor.All
