/-
  PROVED HERE: the contracts of diff.Back and of the laws' sameEdits. Conditions: as each theorem states.
-/
import Derived.Test.YtifnochpmlllgaaDoorDfC
namespace Go.Proofs.YtifnochpmlllgaaDoor.Df
open Go.RowKit
theorem heap_new1 (w : World) (b c : Obj) : ((w.alloc b).alloc c).heap[w.heap.size + 1]? = some c := by
  have h := heap_alloc_new (w.alloc b) c
  have e : (w.alloc b).heap.size = w.heap.size + 1 := by simp
  rw [e] at h
  exact h
theorem e_kept {wr w2 : World} {B : Nat} {v : Value} {l : List Ed} (hO : OwnE wr B v l) {x0 x1 x2 : Value} {T : TypeId} {o2 : Obj} (hg : ((wr.alloc (.cells #[x0, x1, x2] T)).alloc o2).grownBy w2 v.ownBlock) : w2.cell? ⟨wr.heap.size, 1, none⟩ = some x1 := by
  refine (World.cell?_of_block (a := ⟨wr.heap.size, 1, none⟩) (hg.block _ (by simp; omega) (fun e => ?_))).trans (by simp)
  first | exact absurd ((World.ownsRow.lt hO _ e).2) (Nat.lt_irrefl _) | exact absurd ((World.ownsRow.lt hO _ e.symm).2) (Nat.lt_irrefl _)
set_option maxRecDepth 100000 in
set_option maxHeartbeats 2000000 in
theorem back_any (s : ByteArray) (v : Value) (l : List Ed) (W : World) (hl : Eds W v l) (hs : s.size ≤ 1000) (hn : l.length ≤ 100) (ht : ∀ j (h : j < l.length), l[j].text.size ≤ 5000) :
    Calls Tryd.prog 64 #[.string s, v] W (BP (ev (run s l 0 ⟨#[]⟩).1) (if (run s l 0 ⟨#[]⟩).1 = 0 then bk s l 0 else []) W) := by
  have C := Lib.hid (apply_any s v l W hl hs hn ht)
  have hcH := Lib.hid hl
  obtain ⟨a, cap, rfl, -⟩ := hl
  have htH := Lib.hid ht
  clear ht
  have hR0 : Hid ((run s (l.drop 0) 0 ⟨#[]⟩).1 = (run s l 0 ⟨#[]⟩).1) := Lib.hid rfl
  generalize hrr : run s l 0 ⟨#[]⟩ = R at *
  obtain ⟨c, T⟩ := R
  clear hrr
  simp only at hR0 ⊢
  by_cases hc : c = 0
  · subst hc
    have hev : ev 0 = .nilIface := rfl
    rw [if_pos rfl]
    go_enter Tryd.func64, Tryd.ntmps64
    go_wp2_with fail
    refine (C.out).mono ?_; rintro e w1 ⟨rfl, h1⟩
    simp only [hev]
    have H1 := Lib.hid h1
    clear h1 C hev
    go_wp2_with fail
    go_loopw [0, 8, 22] (fun t u i wr => ∃ k o : Nat, ∃ O : ByteArray, k ≤ l.length ∧ i = .int .i64 k ∧ o ≤ s.size ∧ t = .string (s.extract o s.size) ∧ BL s l wr w1.heap.size u k o ∧ Hid ((run s (l.drop k) o O).1 = 0) ∧ Hid (Below w1.heap.size w1 wr)) (fun _ _ i _ => l.length - (intOf i).toNat)
    case atStart => exact ⟨0, 0, ⟨#[]⟩, Nat.zero_le _, rfl, Nat.zero_le _, by rw [ext_all], ⟨⟨none, 0, rfl⟩, Lib.hid ⟨[], rfl, ownE_nil _ _, rfl⟩⟩, hR0, Lib.hid (Below.refl _ _)⟩
    case round =>
      obtain ⟨k, o, O, hk, rfl, ho, rfl, ⟨⟨a1, c1, rfl⟩, hBL⟩, hr, hB⟩ := hrel
      have hsz : (s.extract o s.size).size = s.size - o := by rw [ByteArray.size_extract]; omega
      by_cases hlt : k < l.length
      · obtain ⟨ad, rfl, d0, d1, d2⟩ := hcH.out.at_ k hlt
        have c0 := keepCell hB.out (keepCell H1.out d0)
        have c1 := keepCell hB.out (keepCell H1.out d1)
        have c2 := keepCell hB.out (keepCell H1.out d2)
        have hte := htH.out k hlt
        have hrk := hr.out
        rw [drop_next l k hlt] at hrk
        obtain ⟨⟨q1, q2, q3, q4⟩, hr2⟩ := run_ok _ _ _ _ _ hrk
        obtain ⟨B, hBk, hOB, hBB⟩ := hBL.out
        have hnx := Lib.hid (bk_next s l k o hlt B _ hBB)
        generalize l[k] = e at *
        have hr2H := Lib.hid hr2
        have hOBH := Lib.hid hOB
        obtain ⟨wh, n, tx⟩ := e
        clear d0 d1 d2 hrk hr hr2 hOB hBB hBL
        subst hBk
        simp only at c0 c1 c2 hte q1 q2 q3 q4
        obtain ⟨n, rfl⟩ := Int.eq_ofNat_of_zero_le q3
        have i1 : (0 : Int) ≤ (B.length : Int) := by omega
        have i2 : (B.length : Int) < (l.length : Int) := by omega
        rcases (show wh = 1 ∨ wh = 2 ∨ wh = 3 by omega) with rfl | rfl | rfl
        · have q5 : n ≤ s.size - o := by have := q4 (by decide); omega
          have hX := ext_ext s o n
          have hY := ext_head s o n (by omega)
          have hXs : (s.extract (o + n) s.size).size = s.size - (o + n) := by rw [ByteArray.size_extract]; omega
          clear q4
          go_wp2_with (at_builtin; go_loud (refine ownE_append1 rfl _ _ rfl w1.heap.size _ B rfl ((hOBH.out.alloc _).alloc _) _ 1 (Ed.mk 1 n ⟨#[]⟩) rfl (heap_new1 _ _ _) (by omega) (le_alloc (le_alloc hB.out.size _) _) ?_); intro v1 w2 ho1 hg1 hb1 hat1; have cc := e_kept hOBH.out (x0 := .int .i64 1) (x1 := .int .i64 (n : Nat)) (x2 := .string tx) (T := 96) (o2 := .cells #[.int .i64 1, .int .i64 n, .string ⟨#[]⟩] 96) hg1)
          have hB2 := Lib.hid (((hB.out.alloc hB.out.size _).alloc (le_alloc hB.out.size _) _).trans hb1)
          obtain ⟨a2, c2', rfl⟩ := ho1.len
          have hl2 : (B ++ [(Ed.mk 1 n ⟨#[]⟩)]).length = B.length + 1 := by simp
          rw [hl2] at ho1 ⊢
          have hL : Hid (∃ B', B'.length = B.length + 1 ∧ OwnE w2 w1.heap.size (.slice a2 (B.length + 1) c2') B' ∧ B' ++ bk s (l.drop (B.length + 1)) (o + n) = bk s l 0) := Lib.hid ⟨B ++ [(Ed.mk 1 n ⟨#[]⟩)], hl2, ho1, hnx.out⟩
          go_wp2_with fail
          go_roundw
          case rel => first | exact ⟨B.length + 1, o + n, _, by omega, by go_num, by omega, rfl, ⟨⟨_, _, rfl⟩, hL⟩, hr2H, hB2⟩ | ((repeat apply Exists.intro); exact ⟨⟨B.length + 1, o + n, _, by omega, by go_num, by omega, rfl, ⟨⟨_, _, rfl⟩, hL⟩, hr2H, hB2⟩, rfl⟩)
          case measure => simp [intOf]; omega
        · have q5 : n ≤ s.size - o := by have := q4 (by decide); omega
          have hX := ext_ext s o n
          have hY := ext_head s o n (by omega)
          have hXs : (s.extract (o + n) s.size).size = s.size - (o + n) := by rw [ByteArray.size_extract]; omega
          clear q4
          go_wp2_with (at_builtin; go_loud (refine ownE_append1 rfl _ _ rfl w1.heap.size _ B rfl ((hOBH.out.alloc _).alloc _) _ 1 (Ed.mk 3 0 (s.extract o (o + n))) rfl (heap_new1 _ _ _) (by omega) (le_alloc (le_alloc hB.out.size _) _) ?_); intro v1 w2 ho1 hg1 hb1 hat1; have cc := e_kept hOBH.out (x0 := .int .i64 2) (x1 := .int .i64 (n : Nat)) (x2 := .string tx) (T := 96) (o2 := .cells #[.int .i64 3, .int .i64 0, .string (s.extract o (o + n))] 96) hg1)
          have hB2 := Lib.hid (((hB.out.alloc hB.out.size _).alloc (le_alloc hB.out.size _) _).trans hb1)
          obtain ⟨a2, c2', rfl⟩ := ho1.len
          have hl2 : (B ++ [(Ed.mk 3 0 (s.extract o (o + n)))]).length = B.length + 1 := by simp
          rw [hl2] at ho1 ⊢
          have hL : Hid (∃ B', B'.length = B.length + 1 ∧ OwnE w2 w1.heap.size (.slice a2 (B.length + 1) c2') B' ∧ B' ++ bk s (l.drop (B.length + 1)) (o + n) = bk s l 0) := Lib.hid ⟨B ++ [(Ed.mk 3 0 (s.extract o (o + n)))], hl2, ho1, hnx.out⟩
          go_wp2_with fail
          go_roundw
          case rel => first | exact ⟨B.length + 1, o + n, _, by omega, by go_num, by omega, rfl, ⟨⟨_, _, rfl⟩, hL⟩, hr2H, hB2⟩ | ((repeat apply Exists.intro); exact ⟨⟨B.length + 1, o + n, _, by omega, by go_num, by omega, rfl, ⟨⟨_, _, rfl⟩, hL⟩, hr2H, hB2⟩, rfl⟩)
          case measure => simp [intOf]; omega
        · clear q4
          go_wp2_with (at_builtin; go_loud (refine ownE_append1 rfl _ _ rfl w1.heap.size _ B rfl ((hOBH.out.alloc _).alloc _) _ 1 (Ed.mk 2 tx.size ⟨#[]⟩) rfl (heap_new1 _ _ _) (by omega) (le_alloc (le_alloc hB.out.size _) _) ?_); intro v1 w2 ho1 hg1 hb1 hat1; have cc := e_kept hOBH.out (x0 := .int .i64 3) (x1 := .int .i64 (n : Nat)) (x2 := .string tx) (T := 96) (o2 := .cells #[.int .i64 2, .int .i64 tx.size, .string ⟨#[]⟩] 96) hg1)
          have hB2 := Lib.hid (((hB.out.alloc hB.out.size _).alloc (le_alloc hB.out.size _) _).trans hb1)
          obtain ⟨a2, c2', rfl⟩ := ho1.len
          have hl2 : (B ++ [(Ed.mk 2 tx.size ⟨#[]⟩)]).length = B.length + 1 := by simp
          rw [hl2] at ho1 ⊢
          have hL : Hid (∃ B', B'.length = B.length + 1 ∧ OwnE w2 w1.heap.size (.slice a2 (B.length + 1) c2') B' ∧ B' ++ bk s (l.drop (B.length + 1)) (o) = bk s l 0) := Lib.hid ⟨B ++ [(Ed.mk 2 tx.size ⟨#[]⟩)], hl2, ho1, hnx.out⟩
          go_wp2_with fail
          go_roundw
          case rel => first | exact ⟨B.length + 1, o, _, by omega, by go_num, by omega, rfl, ⟨⟨_, _, rfl⟩, hL⟩, hr2H, hB2⟩ | ((repeat apply Exists.intro); exact ⟨⟨B.length + 1, o, _, by omega, by go_num, by omega, rfl, ⟨⟨_, _, rfl⟩, hL⟩, hr2H, hB2⟩, rfl⟩)
          case measure => simp [intOf]; omega
      · obtain rfl : k = l.length := by omega
        go_wp2_with fail
        go_ret2
        obtain ⟨B, hBk, hOB, hBB⟩ := hBL.out
        rw [List.drop_length, bk, List.append_nil] at hBB
        exact ⟨_, rfl, by rw [← hBB]; exact hOB.eds, H1.out.trans (hB.out.mono H1.out.size)⟩
  · rw [if_neg hc]
    have hev : ev c = .iface 23 (.int .i64 c) := if_neg hc
    go_enter Tryd.func64, Tryd.ntmps64
    go_wp2_with fail
    refine (C.out).mono ?_; rintro e w1 ⟨rfl, h1⟩
    simp only [hev]
    have H1 := Lib.hid h1
    have hevH := Lib.hid hev
    clear h1 C hc hev
    go_wp2_with fail
    go_ret2
    rw [hevH.out]
    exact bp_nil _ H1.out
set_option maxRecDepth 100000 in
/-- Two lists of the same edits. -/
theorem same_any (u v : Value) (l : List Ed) (W : World) (hu : Eds W u l) (hv : Eds W v l) (hn : l.length ≤ 100) :
    Calls Tryd.prog 65 #[u, v] W fun e w' => e = .returned (.bool true) ∧ Below W.heap.size W w' := by
  have huH := Lib.hid hu
  have hvH := Lib.hid hv
  obtain ⟨a, cap, rfl, -⟩ := hu
  obtain ⟨b, cap', rfl, -⟩ := hv
  go_enter Tryd.func65, Tryd.ntmps65
  go_wp2_with fail
  go_loopw [5] (fun i wr => ∃ k : Nat, k ≤ l.length ∧ i = .int .i64 k ∧ Hid (Below W.heap.size W wr)) (fun i _ => l.length - (intOf i).toNat)
  case atStart => exact ⟨0, Nat.zero_le _, rfl, Lib.hid (Below.refl _ _)⟩
  case round =>
    obtain ⟨k, hk, rfl, hB⟩ := hrel
    by_cases hlt : k < l.length
    · obtain ⟨ad, rfl, d0, d1, d2⟩ := huH.out.at_ k hlt
      obtain ⟨ad', rfl, e0, e1, e2⟩ := hvH.out.at_ k hlt
      generalize l[k] = e at *
      obtain ⟨wh, n, tx⟩ := e
      simp only at d0 d1 d2 e0 e1 e2
      have d0 := keepCell hB.out d0
      have d1 := keepCell hB.out d1
      have d2 := keepCell hB.out d2
      have e0 := keepCell hB.out e0
      have e1 := keepCell hB.out e1
      have e2 := keepCell hB.out e2
      have i1 : (0 : Int) ≤ (k : Int) := by omega
      have i2 : (k : Int) < (l.length : Int) := by omega
      go_wp2_with fail
      go_quiet (fail)
      have hB2 := Lib.hid (below_drewN hB.out nq)
      go_wp2_with fail
      go_roundw
      case rel => first | exact ⟨k + 1, by omega, by go_num, hB2⟩ | ((repeat apply Exists.intro); exact ⟨⟨k + 1, by omega, by go_num, hB2⟩, rfl⟩)
      case measure => simp [intOf]; omega
    · obtain rfl : k = l.length := by omega
      go_wp2_with fail
      go_ret
      exact ⟨rfl, hB.out⟩
end Go.Proofs.YtifnochpmlllgaaDoor.Df
