/-
  PROVED HERE: what undoes edits (plain law); the contracts of the document's DiffBack and of diff.Back. Conditions: as each theorem states.
-/
import Derived.Test.YtifnochpmlllgaaDoorDfB
namespace Go.Proofs.YtifnochpmlllgaaDoor.Df
open Go.RowKit
def bk1 (s : ByteArray) (e : Ed) (o : Nat) : Ed := if e.what = 1 then ⟨1, e.n, ⟨#[]⟩⟩ else if e.what = 2 then ⟨3, 0, s.extract o (o + e.n.toNat)⟩ else ⟨2, e.text.size, ⟨#[]⟩⟩
def bk (s : ByteArray) : List Ed → Nat → List Ed
  | [], _ => []
  | e :: r, o => bk1 s e o :: bk s r (nxo e o)
theorem run_ok (s : ByteArray) (e : Ed) (r : List Ed) (o : Nat) (O : ByteArray) (h : (run s (e :: r) o O).1 = 0) : (1 ≤ e.what ∧ e.what ≤ 3 ∧ 0 ≤ e.n ∧ (e.what ≠ 3 → e.n ≤ ((s.size - o : Nat) : Int))) ∧ (run s r (nxo e o) (nxO s e o O)).1 = 0 := by
  rw [run] at h
  by_cases hc : cd s e o = 0
  · rw [if_pos hc] at h
    refine ⟨?_, h⟩
    unfold cd at hc
    by_cases h1 : e.what < 1 ∨ 3 < e.what ∨ e.n < 0
    · rw [if_pos h1] at hc; cases hc
    · rw [if_neg h1] at hc
      by_cases h2 : e.what = 3
      · exact ⟨by omega, by omega, by omega, fun h => absurd h2 h⟩
      · rw [if_neg h2] at hc
        by_cases h3 : ((s.size - o : Nat) : Int) < e.n
        · rw [if_pos h3] at hc; cases hc
        · exact ⟨by omega, by omega, by omega, fun _ => by omega⟩
  · rw [if_neg hc] at h
    exact absurd h hc
theorem bk_next (s : ByteArray) (l : List Ed) (k o : Nat) (h : k < l.length) (B T : List Ed) (hb : B ++ bk s (l.drop k) o = T) : (B ++ [bk1 s l[k] o]) ++ bk s (l.drop (k + 1)) (nxo l[k] o) = T := by
  rw [← hb, drop_next l k h, bk]
  simp
/-- The list so far. -/
def BL (s : ByteArray) (l : List Ed) (wr : World) (B0 : Nat) (v : Value) (k o : Nat) : Prop :=
  (∃ a c, v = .slice a k c) ∧ Hid (∃ B, B.length = k ∧ OwnE wr B0 v B ∧ B ++ bk s (l.drop k) o = bk s l 0)
def BP (x : Value) (b : List Ed) (W : World) (e : Ending) (w' : World) : Prop := ∃ v, e = .returned (.tuple #[v, x]) ∧ Eds w' v b ∧ Below W.heap.size W w'
theorem bp_nil (x : Value) {W w' : World} (hb : Below W.heap.size W w') : BP x [] W (.returned (.tuple #[.slice none 0 0, x])) w' :=
  ⟨_, rfl, ⟨none, 0, rfl, fun j hj => absurd hj (Nat.not_lt_zero j)⟩, hb⟩
theorem heap_new2 (w : World) (a b c : Obj) : (((w.alloc a).alloc b).alloc c).heap[w.heap.size + 1 + 1]? = some c := by
  have h := heap_alloc_new ((w.alloc a).alloc b) c
  have e : ((w.alloc a).alloc b).heap.size = w.heap.size + 1 + 1 := by simp
  rw [e] at h
  exact h
theorem OwnE.keep {w w' : World} {B : Nat} {v : Value} {l : List Ed} (h : OwnE w B v l) (hb : Below w.heap.size w w') : OwnE w' B v l := h.below hb
set_option maxRecDepth 100000 in
set_option maxHeartbeats 2000000 in
theorem docBack_any (s : ByteArray) (v : Value) (l : List Ed) (W : World) (hl : Eds W v l) (hs : s.size ≤ 1000) (hn : l.length ≤ 100) (ht : ∀ j (h : j < l.length), l[j].text.size ≤ 5000) :
    Calls Tryd.prog 63 #[.string s, v] W (BP (.int .i64 (run s l 0 ⟨#[]⟩).1) (if (run s l 0 ⟨#[]⟩).1 = 0 then bk s l 0 else []) W) := by
  have C := Lib.hid (docApply_any s v l W hl hs hn ht)
  have hcH := Lib.hid hl
  obtain ⟨a, cap, rfl, -⟩ := hl
  have htH := Lib.hid ht
  clear ht
  have hR0 : Hid ((run s (l.drop 0) 0 ⟨#[]⟩).1 = (run s l 0 ⟨#[]⟩).1) := Lib.hid rfl
  have hRR : Hid (∀ c, (run s l 0 ⟨#[]⟩).1 = c → run s l 0 ⟨#[]⟩ = (c, (run s l 0 ⟨#[]⟩).2)) := Lib.hid (fun c hc => by rw [← hc])
  generalize hrr : run s l 0 ⟨#[]⟩ = R at *
  obtain ⟨c, T⟩ := R
  clear hRR hrr
  simp only at hR0 ⊢
  by_cases hc : c = 0
  · subst hc
    rw [if_pos rfl]
    go_enter Tryd.func63, Tryd.ntmps63
    go_wp2_with fail
    refine (C.out).mono ?_; rintro e w1 ⟨rfl, h1⟩
    have H1 := Lib.hid h1
    clear h1 C
    go_wp2_with fail
    go_loopw [8, 9, 24] (fun u t i wr => ∃ k o : Nat, ∃ O : ByteArray, k ≤ l.length ∧ i = .int .i64 k ∧ o ≤ s.size ∧ t = .int .i64 o ∧ BL s l wr w1.heap.size u k o ∧ Hid ((run s (l.drop k) o O).1 = 0) ∧ Hid (Below w1.heap.size w1 wr)) (fun _ _ i _ => l.length - (intOf i).toNat)
    case atStart => exact ⟨0, 0, ⟨#[]⟩, Nat.zero_le _, rfl, Nat.zero_le _, rfl, ⟨⟨none, 0, rfl⟩, Lib.hid ⟨[], rfl, ownE_nil _ _, rfl⟩⟩, hR0, Lib.hid (Below.refl _ _)⟩
    case round =>
      obtain ⟨k, o, O, hk, rfl, ho, rfl, ⟨⟨a1, c1, rfl⟩, hBL⟩, hr, hB⟩ := hrel
      by_cases hlt : k < l.length
      · obtain ⟨ad, rfl, d0, d1, d2⟩ := hcH.out.at_ k hlt
        have c0 := keepCell hB.out (keepCell H1.out d0)
        have c1 := keepCell hB.out (keepCell H1.out d1)
        have c2 := keepCell hB.out (keepCell H1.out d2)
        have hte := htH.out k hlt
        have hrk := hr.out
        rw [drop_next l k hlt] at hrk
        obtain ⟨⟨q1, q2, q3, q4⟩, hr2⟩ := run_ok _ _ _ _ _ hrk
        obtain ⟨B, hBk, hOB, hBB⟩ := hBL.out
        have hnx := Lib.hid (bk_next s l k o hlt B _ hBB)
        generalize l[k] = e at *
        have hr2H := Lib.hid hr2
        have hOBH := Lib.hid hOB
        obtain ⟨wh, n, tx⟩ := e
        clear d0 d1 d2 hrk hr hr2 hOB hBB hBL
        subst hBk
        simp only at c0 c1 c2 hte q1 q2 q3 q4
        obtain ⟨n, rfl⟩ := Int.eq_ofNat_of_zero_le q3
        have i1 : (0 : Int) ≤ (B.length : Int) := by omega
        have i2 : (B.length : Int) < (l.length : Int) := by omega
        rcases (show wh = 1 ∨ wh = 2 ∨ wh = 3 by omega) with rfl | rfl | rfl
        · have q5 : n ≤ s.size - o := by have := q4 (by decide); omega
          clear q4
          go_wp2_with (at_builtin; go_loud (refine ownE_append1 rfl _ _ rfl w1.heap.size _ B rfl (((hOBH.out.alloc _).alloc _).alloc _) _ 1 (Ed.mk 1 n ⟨#[]⟩) rfl (heap_new2 _ _ _ _) (by omega) (le_alloc (le_alloc (le_alloc hB.out.size _) _) _) ?_); intro v1 w2 ho1 hg1 hb1 hat1)
          have hB2 := Lib.hid ((((hB.out.alloc hB.out.size _).alloc (le_alloc hB.out.size _) _).alloc (le_alloc (le_alloc hB.out.size _) _) _).trans hb1)
          obtain ⟨a2, c2', rfl⟩ := ho1.len
          have hl2 : (B ++ [(Ed.mk 1 n ⟨#[]⟩)]).length = B.length + 1 := by simp
          rw [hl2] at ho1 ⊢
          have hL : Hid (∃ B', B'.length = B.length + 1 ∧ OwnE w2 w1.heap.size (.slice a2 (B.length + 1) c2') B' ∧ B' ++ bk s (l.drop (B.length + 1)) (o + n) = bk s l 0) := Lib.hid ⟨B ++ [(Ed.mk 1 n ⟨#[]⟩)], hl2, ho1, hnx.out⟩
          go_roundw
          case rel => first | exact ⟨B.length + 1, o + n, _, by omega, by go_num, by omega, by go_num, ⟨⟨_, _, rfl⟩, hL⟩, hr2H, hB2⟩ | ((repeat apply Exists.intro); exact ⟨⟨B.length + 1, o + n, _, by omega, by go_num, by omega, by go_num, ⟨⟨_, _, rfl⟩, hL⟩, hr2H, hB2⟩, rfl⟩)
          case measure => simp [intOf]; omega
        · have q5 : n ≤ s.size - o := by have := q4 (by decide); omega
          clear q4
          go_wp2_with (at_builtin; go_loud (refine ownE_append1 rfl _ _ rfl w1.heap.size _ B rfl (((hOBH.out.alloc _).alloc _).alloc _) _ 1 (Ed.mk 3 0 (s.extract o (o + n))) rfl (heap_new2 _ _ _ _) (by omega) (le_alloc (le_alloc (le_alloc hB.out.size _) _) _) ?_); intro v1 w2 ho1 hg1 hb1 hat1)
          have hB2 := Lib.hid ((((hB.out.alloc hB.out.size _).alloc (le_alloc hB.out.size _) _).alloc (le_alloc (le_alloc hB.out.size _) _) _).trans hb1)
          obtain ⟨a2, c2', rfl⟩ := ho1.len
          have hl2 : (B ++ [(Ed.mk 3 0 (s.extract o (o + n)))]).length = B.length + 1 := by simp
          rw [hl2] at ho1 ⊢
          have hL : Hid (∃ B', B'.length = B.length + 1 ∧ OwnE w2 w1.heap.size (.slice a2 (B.length + 1) c2') B' ∧ B' ++ bk s (l.drop (B.length + 1)) (o + n) = bk s l 0) := Lib.hid ⟨B ++ [(Ed.mk 3 0 (s.extract o (o + n)))], hl2, ho1, hnx.out⟩
          go_roundw
          case rel => first | exact ⟨B.length + 1, o + n, _, by omega, by go_num, by omega, by go_num, ⟨⟨_, _, rfl⟩, hL⟩, hr2H, hB2⟩ | ((repeat apply Exists.intro); exact ⟨⟨B.length + 1, o + n, _, by omega, by go_num, by omega, by go_num, ⟨⟨_, _, rfl⟩, hL⟩, hr2H, hB2⟩, rfl⟩)
          case measure => simp [intOf]; omega
        · clear q4
          go_wp2_with (at_builtin; go_loud (refine ownE_append1 rfl _ _ rfl w1.heap.size _ B rfl (((hOBH.out.alloc _).alloc _).alloc _) _ 1 (Ed.mk 2 tx.size ⟨#[]⟩) rfl (heap_new2 _ _ _ _) (by omega) (le_alloc (le_alloc (le_alloc hB.out.size _) _) _) ?_); intro v1 w2 ho1 hg1 hb1 hat1)
          have hB2 := Lib.hid ((((hB.out.alloc hB.out.size _).alloc (le_alloc hB.out.size _) _).alloc (le_alloc (le_alloc hB.out.size _) _) _).trans hb1)
          obtain ⟨a2, c2', rfl⟩ := ho1.len
          have hl2 : (B ++ [(Ed.mk 2 tx.size ⟨#[]⟩)]).length = B.length + 1 := by simp
          rw [hl2] at ho1 ⊢
          have hL : Hid (∃ B', B'.length = B.length + 1 ∧ OwnE w2 w1.heap.size (.slice a2 (B.length + 1) c2') B' ∧ B' ++ bk s (l.drop (B.length + 1)) (o) = bk s l 0) := Lib.hid ⟨B ++ [(Ed.mk 2 tx.size ⟨#[]⟩)], hl2, ho1, hnx.out⟩
          go_roundw
          case rel => first | exact ⟨B.length + 1, o, _, by omega, by go_num, by omega, rfl, ⟨⟨_, _, rfl⟩, hL⟩, hr2H, hB2⟩ | ((repeat apply Exists.intro); exact ⟨⟨B.length + 1, o, _, by omega, by go_num, by omega, rfl, ⟨⟨_, _, rfl⟩, hL⟩, hr2H, hB2⟩, rfl⟩)
          case measure => simp [intOf]; omega
      · obtain rfl : k = l.length := by omega
        go_wp2_with fail
        go_ret2
        obtain ⟨B, hBk, hOB, hBB⟩ := hBL.out
        rw [List.drop_length, bk, List.append_nil] at hBB
        exact ⟨_, rfl, by rw [← hBB]; exact hOB.eds, H1.out.trans (hB.out.mono H1.out.size)⟩
  · rw [if_neg hc]
    go_enter Tryd.func63, Tryd.ntmps63
    go_wp2_with fail
    refine (C.out).mono ?_; rintro e w1 ⟨rfl, h1⟩
    have H1 := Lib.hid h1
    have hcn : (c != 0) = true := bne_iff_ne.2 hc
    clear h1 C hc
    go_wp2_with fail
    go_ret2
    exact bp_nil _ H1.out
end Go.Proofs.YtifnochpmlllgaaDoor.Df
