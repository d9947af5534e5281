/-
  PROVED HERE: the contract of the document's newEyes; the contract of the document's templates (their memory). Conditions: as each theorem states.
-/
import Derived.Test.YtkopjmofdnlplaaGreatDoorTmG
import Derived.Test.YtkopjmofdnlplaaGreatDoorLexG
import Derived.Test.YtkopjmofdnlplaaGreatDoorTmN
namespace Go.Proofs.YtkopjmofdnlplaaGreatDoor.Tm
open Go.RowKit Go.Proofs.YtkopjmofdnlplaaGreatDoor.Lex Go.Proofs.YtkopjmofdnlplaaGreatDoor.Dig
/-- Tokens are not empty, and lie in the text. -/
theorem lx_in : ∀ (N : Nat) (m : M) (i : Nat) (l : List UInt8), 2 * l.length + m.rank ≤ N → (∀ w, m = .word w → w < i) → ∀ ps, lx m i l = .ok ps → ∀ p ∈ ps, p.1 < p.2 ∧ p.2 ≤ i + l.length := by
  intro N
  induction N with
  | zero =>
    intro m i l hN hw ps h p hp
    cases m with
    | word w => simp [M.rank] at hN
    | plain =>
      obtain rfl : l = [] := List.eq_nil_of_length_eq_zero (by simp [M.rank] at hN; omega)
      rw [lx] at h; injection h with h; subst h; simp at hp
    | remark =>
      obtain rfl : l = [] := List.eq_nil_of_length_eq_zero (by simp [M.rank] at hN; omega)
      rw [lx] at h; injection h with h; subst h; simp at hp
  | succ N IH =>
    intro m i l hN hw ps h p hp
    cases l with
    | nil =>
      cases m with
      | plain => rw [lx] at h; injection h with h; subst h; simp at hp
      | remark => rw [lx] at h; injection h with h; subst h; simp at hp
      | word w =>
        rw [lx] at h; injection h with h; subst h
        rw [List.mem_singleton] at hp; subst hp
        exact ⟨hw w rfl, by simp⟩
    | cons c r =>
      cases m with
      | remark =>
        rw [lx] at h
        have := IH _ (i + 1) r (by simp [M.rank] at hN; split <;> simp [M.rank] <;> omega) (by intro w e; split at e <;> cases e) ps h p hp
        simp only [List.length_cons]
        omega
      | word w =>
        rw [lx] at h
        by_cases h1 : wch c = true
        · rw [if_pos h1] at h
          have := IH (.word w) (i + 1) r (by simp [M.rank] at hN ⊢; omega) (by intro w' e; injection e with e; subst e; have := hw w rfl; omega) ps h p hp
          simp only [List.length_cons]
          omega
        · rw [if_neg h1] at h
          cases hq : lx .plain i (c :: r) with
          | bad k => rw [hq] at h; cases h
          | ok q =>
            rw [hq] at h
            injection h with h
            subst h
            rcases List.mem_append.1 hp with hp | hp
            · rw [List.mem_singleton] at hp; subst hp
              exact ⟨hw w rfl, by simp⟩
            · exact IH .plain i (c :: r) (by simp [M.rank] at hN ⊢; omega) (by intro w e; cases e) q hq p hp
      | plain =>
        rw [lx] at h
        by_cases h1 : wch c = true
        · rw [if_pos h1] at h
          have := IH (.word i) (i + 1) r (by simp [M.rank] at hN ⊢; omega) (by intro w e; injection e with e; omega) ps h p hp
          simp only [List.length_cons]
          omega
        · rw [if_neg h1] at h
          by_cases h2 : blk c = true
          · rw [if_pos h2] at h
            have := IH .plain (i + 1) r (by simp [M.rank] at hN ⊢; omega) (by intro w e; cases e) ps h p hp
            simp only [List.length_cons]
            omega
          · rw [if_neg h2] at h
            by_cases h3 : c = 35
            · rw [if_pos h3] at h
              have := IH .remark (i + 1) r (by simp [M.rank] at hN ⊢; omega) (by intro w e; cases e) ps h p hp
              simp only [List.length_cons]
              omega
            · rw [if_neg h3] at h
              have hml := mk_le c r
              by_cases h4 : mk c r = 0
              · rw [if_pos h4] at h; cases h
              · rw [if_neg h4] at h
                cases hq : lx .plain (i + mk c r) ((c :: r).drop (mk c r)) with
                | bad k => rw [hq] at h; cases h
                | ok q =>
                  rw [hq] at h
                  injection h with h
                  subst h
                  rcases List.mem_append.1 hp with hp | hp
                  · rw [List.mem_singleton] at hp; subst hp
                    exact ⟨by simp only; omega, by simp only; omega⟩
                  · have := IH .plain _ _ (by simp [M.rank] at hN ⊢; omega) (by intro w e; cases e) q hq p hp
                    rw [List.length_drop] at this
                    omega
theorem lx_few : ∀ (N : Nat) (m : M) (i : Nat) (l : List UInt8), 2 * l.length + m.rank ≤ N → ∀ ps, lx m i l = .ok ps → ps.length ≤ l.length + m.rank := by
  intro N
  induction N with
  | zero =>
    intro m i l hN ps h
    obtain rfl : l = [] := List.eq_nil_of_length_eq_zero (by omega)
    cases m with
    | word w => simp [M.rank] at hN
    | plain => rw [lx] at h; injection h with h; subst h; simp
    | remark => rw [lx] at h; injection h with h; subst h; simp
  | succ N IH =>
    intro m i l hN ps h
    cases l with
    | nil =>
      cases m with
      | plain => rw [lx] at h; injection h with h; subst h; simp
      | remark => rw [lx] at h; injection h with h; subst h; simp
      | word w => rw [lx] at h; injection h with h; subst h; simp [M.rank]
    | cons c r =>
      cases m with
      | remark =>
        rw [lx] at h
        have := IH _ (i + 1) r (by simp [M.rank] at hN; split <;> simp [M.rank] <;> omega) ps h
        simp only [List.length_cons, M.rank] at this ⊢
        split at this <;> omega
      | word w =>
        rw [lx] at h
        by_cases h1 : wch c = true
        · rw [if_pos h1] at h
          have := IH (.word w) (i + 1) r (by simp [M.rank] at hN ⊢; omega) ps h
          simp only [List.length_cons, M.rank] at this ⊢
          omega
        · rw [if_neg h1] at h
          cases hq : lx .plain i (c :: r) with
          | bad k => rw [hq] at h; cases h
          | ok q =>
            rw [hq] at h
            injection h with h
            subst h
            have := IH .plain i (c :: r) (by simp [M.rank] at hN ⊢; omega) q hq
            simp only [List.length_append, List.length_cons, List.length_nil, M.rank] at this ⊢
            omega
      | plain =>
        rw [lx] at h
        by_cases h1 : wch c = true
        · rw [if_pos h1] at h
          have := IH (.word i) (i + 1) r (by simp [M.rank] at hN ⊢; omega) ps h
          simp only [List.length_cons, M.rank] at this ⊢
          omega
        · rw [if_neg h1] at h
          by_cases h2 : blk c = true
          · rw [if_pos h2] at h
            have := IH .plain (i + 1) r (by simp [M.rank] at hN ⊢; omega) ps h
            simp only [List.length_cons, M.rank] at this ⊢
            omega
          · rw [if_neg h2] at h
            by_cases h3 : c = 35
            · rw [if_pos h3] at h
              have := IH .remark (i + 1) r (by simp [M.rank] at hN ⊢; omega) ps h
              simp only [List.length_cons, M.rank] at this ⊢
              omega
            · rw [if_neg h3] at h
              have hml := mk_le c r
              by_cases h4 : mk c r = 0
              · rw [if_pos h4] at h; cases h
              · rw [if_neg h4] at h
                cases hq : lx .plain (i + mk c r) ((c :: r).drop (mk c r)) with
                | bad k => rw [hq] at h; cases h
                | ok q =>
                  rw [hq] at h
                  injection h with h
                  subst h
                  have := IH .plain _ _ (by simp [M.rank] at hN ⊢; omega) q hq
                  rw [List.length_drop] at this
                  simp only [List.length_append, List.length_cons, List.length_nil, M.rank] at this hml ⊢
                  omega
theorem rl_few (s : ByteArray) : (rl s).length ≤ s.size := by
  unfold rl
  split
  · simp
  · split
    · rename_i ps hr
      have := lx_few _ .plain 0 (lst s) (Nat.le_refl _) ps hr
      rw [lst_len] at this
      simpa [tks, M.rank] using this
    · simp
theorem wch_nob {c : UInt8} (h : wch c = true) : c ≠ 32 := by rintro rfl; exact absurd h (by decide)
theorem lx_nob (S : List UInt8) : ∀ (N : Nat) (m : M) (i : Nat) (l : List UInt8), 2 * l.length + m.rank ≤ N → S.drop i = l → (∀ w, m = .word w → ∀ j, w ≤ j → j < i → S[j]? ≠ some 32) → ∀ ps, lx m i l = .ok ps → ∀ p ∈ ps, ∀ j, p.1 ≤ j → j < p.2 → S[j]? ≠ some 32 := by
  have hnext : ∀ {i : Nat} {c : UInt8} {r : List UInt8}, S.drop i = c :: r → S.drop (i + 1) = r ∧ S[i]? = some c := by
    intro i c r h
    refine ⟨?_, ?_⟩
    · have := congrArg (List.drop 1) h
      rw [List.drop_drop] at this
      exact this
    · have := congrArg (fun x => x[0]?) h
      simpa using this
  intro N
  induction N with
  | zero =>
    intro m i l hN _ hw ps h p hp j h1 h2
    obtain rfl : l = [] := List.eq_nil_of_length_eq_zero (by omega)
    cases m with
    | word w => simp [M.rank] at hN
    | plain => rw [lx] at h; injection h with h; subst h; cases hp
    | remark => rw [lx] at h; injection h with h; subst h; cases hp
  | succ N IH =>
    intro m i l hN hl hw ps h p hp
    cases l with
    | nil =>
      cases m with
      | plain => rw [lx] at h; injection h with h; subst h; cases hp
      | remark => rw [lx] at h; injection h with h; subst h; cases hp
      | word w =>
        rw [lx] at h; injection h with h; subst h
        rw [List.mem_singleton] at hp; subst hp
        exact hw w rfl
    | cons c r =>
      obtain ⟨hd, hc⟩ := hnext hl
      cases m with
      | remark =>
        rw [lx] at h
        exact IH _ (i + 1) r (by simp [M.rank] at hN; split <;> simp [M.rank] <;> omega) hd (by intro w e; split at e <;> cases e) ps h p hp
      | word w =>
        rw [lx] at h
        by_cases h1 : wch c = true
        · rw [if_pos h1] at h
          refine IH (.word w) (i + 1) r (by simp [M.rank] at hN ⊢; omega) hd (fun w' e j a b => ?_) ps h p hp
          injection e with e
          subst e
          rcases Nat.lt_or_ge j i with h3 | h3
          · exact hw w rfl j a h3
          · obtain rfl : j = i := by omega
            rw [hc]
            exact fun e => wch_nob h1 (by injection e)
        · rw [if_neg h1] at h
          cases hq : lx .plain i (c :: r) with
          | bad k => rw [hq] at h; cases h
          | ok q =>
            rw [hq] at h
            injection h with h
            subst h
            rcases List.mem_append.1 hp with hp | hp
            · rw [List.mem_singleton] at hp; subst hp
              exact hw w rfl
            · exact IH .plain i (c :: r) (by simp [M.rank] at hN ⊢; omega) hl (by intro w e; cases e) q hq p hp
      | plain =>
        rw [lx] at h
        by_cases h1 : wch c = true
        · rw [if_pos h1] at h
          refine IH (.word i) (i + 1) r (by simp [M.rank] at hN ⊢; omega) hd (fun w' e j a b => ?_) ps h p hp
          injection e with e
          subst e
          obtain rfl : j = i := by omega
          rw [hc]
          exact fun e => wch_nob h1 (by injection e)
        · rw [if_neg h1] at h
          by_cases h2 : blk c = true
          · rw [if_pos h2] at h
            exact IH .plain (i + 1) r (by simp [M.rank] at hN ⊢; omega) hd (by intro w e; cases e) ps h p hp
          · rw [if_neg h2] at h
            by_cases h3 : c = 35
            · rw [if_pos h3] at h
              exact IH .remark (i + 1) r (by simp [M.rank] at hN ⊢; omega) hd (by intro w e; cases e) ps h p hp
            · rw [if_neg h3] at h
              have hml := mk_le c r
              by_cases h4 : mk c r = 0
              · rw [if_pos h4] at h; cases h
              · rw [if_neg h4] at h
                cases hq : lx .plain (i + mk c r) ((c :: r).drop (mk c r)) with
                | bad k => rw [hq] at h; cases h
                | ok q =>
                  rw [hq] at h
                  injection h with h
                  subst h
                  rcases List.mem_append.1 hp with hp | hp
                  · rw [List.mem_singleton] at hp; subst hp
                    simp only
                    intro j a b
                    have hc32 : c ≠ 32 := by rintro rfl; exact h2 (by decide)
                    rcases Nat.lt_or_ge i j with h5 | h5
                    · unfold mk at h4 b
                      split at b
                      · rename_i hm
                        simp only [Bool.and_eq_true, beq_iff_eq] at hm
                        obtain rfl : j = i + 1 := by omega
                        cases r with
                        | nil => simp at hm
                        | cons d r' =>
                          rw [(hnext hd).2]
                          intro e
                          injection e with e
                          subst e
                          simp at hm
                      · split at b <;> omega
                    · obtain rfl : j = i := by omega
                      rw [hc]
                      exact fun e => hc32 (by injection e)
                  · refine IH .plain _ _ (by simp [M.rank] at hN ⊢; omega) ?_ (by intro w e; cases e) q hq p hp
                    rw [← hl, List.drop_drop]
theorem allT_rl {s : ByteArray} (hs : s.size ≤ 900 ∨ 3000 < s.size) : AllT (rl s) := by
  intro t ht
  unfold rl at ht
  by_cases h : 3000 < s.size
  · rw [if_pos h] at ht; simp at ht
  · rw [if_neg h] at ht
    cases hr : ro s with
    | bad i => rw [hr] at ht; simp at ht
    | ok ps =>
      rw [hr] at ht
      simp only [tks, List.mem_map] at ht
      obtain ⟨p, hp, rfl⟩ := ht
      have := lx_in _ .plain 0 (lst s) (Nat.le_refl _) (by intro w e; cases e) ps hr p hp
      rw [lst_len] at this
      have hn := lx_nob (lst s) _ .plain 0 (lst s) (Nat.le_refl _) rfl (by intro w e; cases e) ps hr p hp
      simp only [ByteArray.size_extract]
      refine ⟨by omega, by omega, by omega, fun c hc => ?_⟩
      simp only [ByteArray.data_extract, Array.toList_extract] at hc
      obtain ⟨j, hj, rfl⟩ := List.mem_iff_getElem.1 hc
      intro e
      have hl : (s.data.toList).length = s.size := rfl
      simp only [List.extract_eq_take_drop, List.length_take, List.length_drop] at hj
      refine hn (p.1 + j) (by omega) (by omega) ?_
      simp only [List.extract_eq_take_drop, List.getElem_take, List.getElem_drop] at e
      rw [← e]
      exact List.getElem?_eq_getElem (by unfold lst; omega)
theorem good_any (W : World) : Calls Tryz.prog 34 #[] W fun e w' => e = .returned (.agg #[.int .i64 0, .int .i64 (-1)]) ∧ Below W.heap.size W w' := by
  go_enter Tryz.func34, Tryz.ntmps34
  go_wp2_with fail
  refine bodyPost_ret (v := .agg #[.int .i64 0, .int .i64 (-1)]) (by simp [results, Tryz.results34, go_sem]) rfl ⟨rfl, ?_⟩
  exact (Below.refl _ _).alloc (Nat.le_refl _) _
def NeP (s : ByteArray) (W : World) (e : Ending) (w' : World) : Prop := ∃ (G : Nat) (lv : Value), e = .returned (.tuple #[.pointer (some ⟨G, 0, none⟩), .agg #[.int .i64 (rc s), .int .i64 (rp s)]]) ∧ PS G s.size lv ⟨0, -1, rl s⟩ w' ∧ Below W.heap.size W w' ∧ W.heap.size ≤ G
theorem ne_kept {w1 w4 : World} {R G : Nat} {v : Value} {l : List Tk} {x y : Int} (hT : Tks w1 v l) (hR : w1.heap[R]? = some (.cells #[.int .i64 x, .int .i64 y] 30)) (hk : ∀ k, k < w1.heap.size → k ≠ R → w4.heap[k]? = w1.heap[k]?) (hG : w1.heap.size ≤ G) :
    Tks w4 v l ∧ (l ≠ [] → ∀ k, v.ownBlock = some k → k < G) := by
  have key : l ≠ [] → ∀ k, v.ownBlock = some k → k < w1.heap.size ∧ k ≠ R := by
    intro hl k hk
    obtain ⟨a, cap, rfl, _, hc⟩ := hT
    obtain ⟨ad, rfl, h1, _⟩ := hc 0 (List.length_pos_iff.2 hl)
    have hb : ad.block = k := by simpa [Value.ownBlock] using hk
    have hb' : (ad.add (0 * 2)).block = k := by rw [← hb]; unfold Addr.add; split <;> rfl
    refine ⟨by rw [← hb']; exact World.block_lt_of_cell? w1 _ h1, fun e => ?_⟩
    rw [e] at hb'
    unfold World.cell? at h1
    rw [hb', hR] at h1
    generalize (ad.add (0 * 2)).off = o at h1
    rcases o with _ | _ | o <;> simp at h1
  exact ⟨tks_kept hT fun hl k e => hk k (key hl k e).1 (key hl k e).2, fun hl k e => Nat.lt_of_lt_of_le (key hl k e).1 hG⟩
theorem ne_fin {s : ByteArray} {W w1 w4 : World} {G : Nat} {a : Option Addr} {c : Nat} (hT : Tks w1 (.slice a (rl s).length c) (rl s)) (hR : w1.heap[W.heap.size]? = some (.cells #[.int .i64 0, .int .i64 0] 30))
    (hk : ∀ k, k < w1.heap.size → k ≠ W.heap.size → w4.heap[k]? = w1.heap[k]?) (hG : w1.heap.size ≤ G) (hB : Below W.heap.size W w1) (hw : w4.os = w1.os ∧ w4.tape = w1.tape ∧ w4.output = w1.output ∧ w1.heap.size ≤ w4.heap.size)
    (hb : w4.heap[G]? = some (.cells #[.slice a (rl s).length c, .int .i64 (s.size : Nat), .int .i64 0, .int .i64 (-1)] 116)) :
    NeP s W (.returned (.tuple #[.pointer (some ⟨G, 0, none⟩), .agg #[.int .i64 (rc s), .int .i64 (rp s)]])) w4 := by
  obtain ⟨k1, k2⟩ := ne_kept hT hR hk hG
  refine ⟨G, _, rfl, ⟨by unfold World.cell?; rw [hb]; rfl, by unfold World.cell?; rw [hb]; rfl, by unfold World.cell?; rw [hb]; rfl, by unfold World.cell?; rw [hb]; rfl, fun j => by unfold World.frozen?; rw [hb]; rfl, k1, k2, (Array.getElem?_eq_some_iff.1 hb).1⟩, ?_, Nat.le_trans hB.size hG⟩
  exact ⟨hw.1.trans hB.os, hw.2.1.trans hB.tape, hw.2.2.1.trans hB.output, Nat.le_trans hB.size hw.2.2.2, fun k hk2 => (hk k (Nat.lt_of_lt_of_le hk2 hB.size) (by omega)).trans (hB.block k hk2)⟩
theorem heap_alloc_at (w : World) (o : Obj) {n : Nat} (h : n = w.heap.size) : (w.alloc o).heap[n]? = some o := by subst h; exact heap_alloc_new _ _
theorem ne_results (tmps : Array Value) (w : World) (g : Nat) (v0 v1 : Value) (h3 : tmps.getD 3 undef = .pointer (some ⟨g, 0, none⟩)) (c0 : w.cell? ⟨g, 0, none⟩ = some v0) (c1 : w.cell? ⟨g, 1, none⟩ = some v1) :
    (results Tryz.f62 tmps).run Tryz.prog w = .ok (.tuple #[tmps.getD 2 undef, .agg #[v0, v1]]) w := by
  have h3' : tmps[3]?.getD undef = .pointer (some ⟨g, 0, none⟩) := by simpa using h3
  simp only [results, Tryz.f62]
  simp [go_sem, h3', c0, c1]
set_option maxRecDepth 100000 in
set_option maxHeartbeats 2000000 in
theorem newEyes_any (s : ByteArray) (hs : s.size ≤ 4000) (W : World) : Calls Tryz.prog 62 #[.string s] W (NeP s W) := by
  go_enter Tryz.func62, Tryz.ntmps62
  go_wp2_with fail
  refine (docLex_any s hs _).mono ?_; rintro e w1 ⟨v, rfl, ht, hb⟩
  have hT := Lib.hid ht
  obtain ⟨a1, c1, rfl, _⟩ := ht
  have hB := Lib.hid hb
  clear hb
  have hW1 := hB.out.size
  rw [show (W.alloc (.cells #[.int .i64 0, .int .i64 0] 30)).heap.size = W.heap.size + 1 by simp] at hW1 hB
  have B1 := Lib.hid (show Below W.heap.size W w1 from ((Below.refl _ _).alloc (Nat.le_refl _) _).trans ⟨hB.out.os, hB.out.tape, hB.out.output, hB.out.size, fun k hk => hB.out.block k (by omega)⟩)
  have hr := (hB.out.block W.heap.size (by omega)).trans (heap_alloc_new _ _)
  have HR := Lib.hid hr
  go_upto_region 2 with fail
  obtain ⟨w2, hw2⟩ : ∃ w2, w2 = w1.alloc (.cells #[.int .i64 (rc s), .int .i64 (rp s)] 30) := ⟨_, rfl⟩
  have hF : w2.heap[w1.heap.size]? = some (.cells #[.int .i64 (rc s), .int .i64 (rp s)] 30) := by rw [hw2]; exact heap_alloc_new _ _
  have hR : w2.heap[W.heap.size]? = some (.cells #[.int .i64 0, .int .i64 0] 30) := by rw [hw2]; exact (heap_alloc_old _ _ (by omega)).trans hr
  have B2 := Lib.hid (show Below w1.heap.size w1 w2 by rw [hw2]; exact (Below.refl _ _).alloc (Nat.le_refl _) _)
  have hs2 : w2.heap.size = w1.heap.size + 1 := by rw [hw2]; simp
  rw [← hw2]
  clear hw2 hr hB
  have y0 : w2.cell? ⟨w1.heap.size, 0, none⟩ = some (.int .i64 (rc s)) := by unfold World.cell?; rw [hF]; rfl
  have y1 : w2.cell? ⟨w1.heap.size, 1, none⟩ = some (.int .i64 (rp s)) := by unfold World.cell?; rw [hF]; rfl
  have r0 : w2.cell? ⟨W.heap.size, 0, none⟩ = some (.int .i64 0) := by unfold World.cell?; rw [hR]; rfl
  have r1 : w2.cell? ⟨W.heap.size, 1, none⟩ = some (.int .i64 0) := by unfold World.cell?; rw [hR]; rfl
  have g0 : ∀ j, w2.frozen? ⟨W.heap.size, j, none⟩ = false := fun j => by unfold World.frozen?; rw [hR]; rfl
  clear hF hR
  have y0d : w2.drew.cell? ⟨w1.heap.size, 0, none⟩ = some (.int .i64 (rc s)) := y0
  have y1d : w2.drew.cell? ⟨w1.heap.size, 1, none⟩ = some (.int .i64 (rp s)) := y1
  have r0d : w2.drew.cell? ⟨W.heap.size, 0, none⟩ = some (.int .i64 0) := r0
  have r1d : w2.drew.cell? ⟨W.heap.size, 1, none⟩ = some (.int .i64 0) := r1
  have g0d : ∀ j, w2.drew.frozen? ⟨W.heap.size, j, none⟩ = false := g0
  go_region_with (first | (go_at_call 34; refine (good_any _).mono ?_; rintro e w3 ⟨rfl, hb3⟩; have z0 : w3.cell? ⟨w1.heap.size, 0, none⟩ = some (.int .i64 (rc s)) := keepCell hb3 y0d; have z1 : w3.cell? ⟨w1.heap.size, 1, none⟩ = some (.int .i64 (rp s)) := keepCell hb3 y1d; have q0 : w3.cell? ⟨W.heap.size, 0, none⟩ = some (.int .i64 0) := keepCell hb3 r0d; have q1 : w3.cell? ⟨W.heap.size, 1, none⟩ = some (.int .i64 0) := keepCell hb3 r1d; have p0 : w3.frozen? ⟨W.heap.size, 0, none⟩ = false := keepFree hb3 r0d (g0d 0); have p1 : w3.frozen? ⟨W.heap.size, 1, none⟩ = false := keepFree hb3 r1d (g0d 1); have l3 : w1.heap.size < w3.heap.size := World.block_lt_of_cell? w3 _ z0; have m3 : W.heap.size < w3.heap.size := World.block_lt_of_cell? w3 _ q0; have n3 : ¬ w3.heap.size = w1.heap.size := (fun e => absurd l3 (by rw [e]; exact Nat.lt_irrefl _)); have n4 : ¬ w1.heap.size = w3.heap.size := (fun e => n3 e.symm); have n5 : ¬ w3.heap.size = W.heap.size := (fun e => absurd m3 (by rw [e]; exact Nat.lt_irrefl _)); have n6 : ¬ W.heap.size = w3.heap.size := (fun e => n5 e.symm); have H3 := Lib.hid hb3; clear hb3))
  all_goals
    go_wp2_with fail
    have b3 := H3.out
    refine bodyPost_ret (ne_results _ _ W.heap.size (.int .i64 (rc s)) (.int .i64 (rp s)) rfl ?_ ?_) rfl ?_
    · go_simp
    · go_simp
    refine ne_fin hT.out HR.out (fun k h1 h2 => ?_) (show w1.heap.size ≤ w3.heap.size by omega) B1.out ?_ ?_
    · first
        | exact (heap_alloc_old _ _ (by simp [World.setCell]; omega)).trans ((Below.heap_setCell _ _ _ _ h2).trans ((Below.heap_setCell _ _ _ _ h2).trans ((b3.block k (show k < w2.heap.size by omega)).trans (B2.out.block k h1))))
        | exact (Below.heap_setCell _ _ _ _ h2).trans ((Below.heap_setCell _ _ _ _ h2).trans ((heap_alloc_old _ _ (by omega)).trans ((b3.block k (show k < w2.heap.size by omega)).trans (B2.out.block k h1))))
    · have s3 : w1.heap.size ≤ w3.heap.size := by omega
      exact ⟨b3.os.trans B2.out.os, b3.tape.trans B2.out.tape, b3.output.trans B2.out.output, by simp [World.setCell]; omega⟩
    · first
        | exact (Below.heap_setCell _ _ _ _ n5).trans ((Below.heap_setCell _ _ _ _ n5).trans (heap_alloc_new _ _))
        | exact heap_alloc_at _ _ rfl
        | exact heap_alloc_at _ _ (by simp [World.setCell])
        | exact (Below.heap_setCell _ _ _ _ n5).trans (heap_alloc_at _ _ (by simp [World.setCell]))
end Go.Proofs.YtkopjmofdnlplaaGreatDoor.Tm
namespace Go.Proofs.YtkopjmofdnlplaaGreatDoor.Tm
open Go.RowKit Go.Proofs.YtkopjmofdnlplaaGreatDoor.Lex Go.Proofs.YtkopjmofdnlplaaGreatDoor.Dig
structure Ty where
  name : ByteArray
  at_ : Nat
  items : List It
abbrev Tv := Ty × Value
def Tv.vals (p : Tv) : List Value := [.string p.1.name, .int .i64 p.1.at_, p.2]
def tvCells (l : List Tv) : List Value := l.flatMap Tv.vals
theorem tvCells_len (l : List Tv) : (tvCells l).length = l.length * 3 := by
  induction l with
  | nil => rfl
  | cons e r ih => rw [tvCells, List.flatMap_cons, List.length_append, ← tvCells, ih, List.length_cons]; simp [Tv.vals]; omega
theorem tvCells_snoc (l : List Tv) (e : Tv) : tvCells l ++ e.vals = tvCells (l ++ [e]) := by simp [tvCells]
theorem tvCells_get (l : List Tv) (j i : Nat) (hj : j < l.length) (hi : i < 3) : (tvCells l)[j * 3 + i]? = l[j].vals[i]? := by
  induction l generalizing j with
  | nil => simp at hj
  | cons e r ih =>
    have he : e.vals.length = 3 := rfl
    rw [tvCells, List.flatMap_cons, ← tvCells]
    cases j with
    | zero =>
      rw [Nat.zero_mul, Nat.zero_add, List.getElem?_append_left (by omega)]
      rfl
    | succ j =>
      rw [List.getElem?_append_right (by omega), show (j + 1) * 3 + i - e.vals.length = j * 3 + i by omega]
      rw [ih j (by simpa using hj)]
      rfl
def OwnY (w : World) (B : Nat) (v : Value) (l : List Tv) : Prop := w.ownsRow B 122 3 v l.length (tvCells l)
theorem ownY_nil (w : World) (B : Nat) : OwnY w B (.slice none 0 0) [] := World.ownsRow_nil w B _ 3
theorem OwnY.alloc {w : World} {B : Nat} {v : Value} {l : List Tv} (h : OwnY w B v l) (o : Obj) : OwnY (w.alloc o) B v l := World.ownsRow.alloc h o
theorem OwnY.len {w : World} {B : Nat} {v : Value} {l : List Tv} (h : OwnY w B v l) : ∃ a cap, v = .slice a l.length cap := by
  rcases h.2 with ⟨rfl, h0⟩ | ⟨g, cap, cur, rfl, _⟩
  · exact ⟨none, 0, by rw [h0]⟩
  · exact ⟨_, _, rfl⟩
theorem OwnY.grown {w w' : World} {B G : Nat} {v : Value} {l : List Tv} (h : OwnY w B v l) (hg : w.grownBy w' (some G)) (hG : v.ownBlock ≠ some G) : OwnY w' B v l :=
  World.ownsRow.kept (row := some G) h ⟨hg.os, hg.tape, hg.output, hg.size, fun k hk hr => hg.block k hk hr⟩ (.inr hG)
theorem infoType : (Tryz.prog.info? 122).map (fun i => (i.zero, i.size, i.bytes)) = some (some (.agg #[.string ⟨#[]⟩, .int .i64 0, .slice none 0 0]), 3, 48) := by kernel_rfl
section
variable {w : World}
theorem ownY_append1 {ops : Array Oper} {rest : List Oper} {o : Oper} {a : Act} {Q : Exit → Act → World → Prop} (hgd : o.guard = none) (s x : Operand)
    (ho : o.op = .call { callee := .builtin .append, args := #[s, x], argTypes := #[22, 22] })
    (B : Nat) (v : Value) (l : List Tv) (hs : a.eval s = v) (hown : OwnY w B v l)
    (g c : Nat) (e : Tv) (hx : a.eval x = .slice (some ⟨g, 0, none⟩) 1 c) (hnew : w.heap[g]? = some (.cells e.vals.toArray 122 (0, 0)))
    (h1 : e.2.oneCell' = true)
    (hlen : l.length + 1 ≤ 1000000) (hbase : B ≤ w.heap.size)
    (h : ∀ v' w', OwnY w' B v' (l ++ [e]) → w.grownBy w' v.ownBlock → Below B w w' → (v'.ownBlock = v.ownBlock ∨ v'.ownBlock = some w.heap.size) → wpList Tryz.prog ops Q rest (a.put o.dst v') w') : wpList Tryz.prog ops Q (o :: rest) a w := by
  obtain ⟨i, hi, hz0, hz1, hz2⟩ := info_parts infoType
  have hl : e.vals.length = 3 := rfl
  refine wpList_append_own_at w hgd s x 22 ho B 122 i _ 3 48 Tryz.underlying22 hi hz0 hz1 hz2 rfl (by decide) v l.length (tvCells l) hs hown ⟨g, 0, none⟩ 1 c e.vals hx (by rw [hl]) ?_ ?_ (by unfold maxLen; omega) (by omega) hbase ?_
  · intro j u hu
    rw [Addr.add_mid, Nat.zero_add]
    unfold World.cell?
    rw [hnew]
    simpa using hu
  · intro u hu
    simp only [Tv.vals, List.mem_cons, List.mem_nil_iff, or_false] at hu
    rcases hu with rfl | rfl | rfl <;> first | rfl | exact h1
  · intro v' w' h2 h3 _ h5
    refine h v' w' ?_ h3 ((Below.refl B w).grown h3 hbase (fun k hk => (World.ownsRow.lt hown k hk).1)) h5
    unfold OwnY
    rw [List.length_append, ← tvCells_snoc]
    exact h2
end
def AllY (l : List Tv) (w : World) : Prop := ∀ p ∈ l, ItsAt w p.2 p.1.items
theorem awY_nil (lo : Nat) (row : Option Nat) (w : World) : Aw lo row w (AllY []) := fun _ _ p hp => by simp at hp
theorem awY_next {lo G : Nat} {wr w1 w2 w3 : World} {v v2 : Value} {l : List Tv} {p : Tv} (h : Aw lo v.ownBlock wr (AllY l)) (hp : ItsF wr.heap.size w1 p.1.items p.2)
    (hvb : ∀ k, v.ownBlock = some k → k < wr.heap.size) (hlo : lo ≤ wr.heap.size)
    (g1 : wr.grownBy w1 (some G)) (hG : G < lo) (g2 : Below w1.heap.size w1 w2) (g3 : w2.grownBy w3 v.ownBlock) (hat : v2.ownBlock = v.ownBlock ∨ v2.ownBlock = some w2.heap.size) : Aw lo v2.ownBlock w3 (AllY (l ++ [p])) := by
  intro w4 h4
  have s1 := g1.size
  have s2 := g2.size
  have s3 := g3.size
  have hne : ∀ k, k < w2.heap.size → some k ≠ v.ownBlock → some k ≠ v2.ownBlock := by
    intro k hk hn
    rcases hat with e | e
    · rw [e]; exact hn
    · rw [e]; intro e2; simp only [Option.some.injEq] at e2; omega
  intro q hq
  rcases List.mem_append.1 hq with hq | hq
  · refine h w4 (fun k hk1 hk2 hk3 => ?_) q hq
    rw [h4 k hk1 (by omega) (hne k (by omega) hk3), g3.block k (by omega) hk3, g2.block k (by omega), g1.block k hk2 (fun e => by simp only [Option.some.injEq] at e; omega)]
  · rw [List.mem_singleton] at hq
    subst hq
    refine hp w4 fun k hk1 hk2 => ?_
    have hk3 : some k ≠ v.ownBlock := fun e => by have := hvb k e.symm; omega
    rw [h4 k (by omega) (by omega) (hne k (by omega) hk3), g3.block k (by omega) hk3, g2.block k (by omega)]
/-- The slice v shows the templates l. -/
def TysAt (w : World) (v : Value) (l : List Ty) : Prop := ∃ a cap, v = .slice a l.length cap ∧ l.length ≤ cap ∧ ∀ i (h : i < l.length), ∃ ad iv, a = some ad ∧ w.cell? (ad.add (i * 3 + 0)) = some (.string l[i].name) ∧ w.cell? (ad.add (i * 3 + 1)) = some (.int .i64 (l[i].at_ : Nat)) ∧ w.cell? (ad.add (i * 3 + 2)) = some iv ∧ ItsAt w iv l[i].items
def TysF (lo : Nat) (w : World) (l : List Ty) (v : Value) : Prop := Fw lo w fun w2 => TysAt w2 v l
theorem tys_of {lo : Nat} {w : World} {v : Value} {l : List Tv} (ho : OwnY w lo v l) (h : Aw lo v.ownBlock w (AllY l)) : TysF lo w (l.map (·.1)) v := by
  intro w2 h2
  have hA := h w2 (fun k h3 h4 _ => h2 k h3 h4)
  rcases ho.2 with ⟨rfl, h0⟩ | ⟨g, cap, cur, rfl, hg0, hg, hcp, _⟩
  · obtain rfl : l = [] := List.eq_nil_of_length_eq_zero h0
    exact ⟨none, 0, rfl, Nat.le_refl _, fun i hi => absurd hi (Nat.not_lt_zero i)⟩
  · refine ⟨some ⟨g, 0, none⟩, cap, by simp, by simpa using hcp, fun i hi => ?_⟩
    have hi' : i < l.length := by simpa using hi
    have hlt : g < w.heap.size := (Array.getElem?_eq_some_iff.1 hg).1
    have hc : ∀ m x, l[i].vals[m]? = some x → m < 3 → w2.cell? (Addr.add ⟨g, 0, none⟩ (i * 3 + m)) = some x := by
      intro m x hm hm3
      refine Eq.trans (World.cell?_of_block ?_) (World.ownsRow.cells ho (g := g) rfl (i * 3 + m) x (by rw [tvCells_get l i m hi' hm3]; exact hm))
      rw [show ((⟨g, 0, none⟩ : Addr).add (i * 3 + m)).block = g by unfold Addr.add; split <;> rfl]
      exact h2 g hg0 hlt
    simp only [List.getElem_map]
    exact ⟨_, l[i].2, rfl, hc 0 _ rfl (by omega), hc 1 _ rfl (by omega), hc 2 _ rfl (by omega), hA _ (List.getElem_mem hi')⟩
/-- A template's box. -/
def YB (w : World) (X : Nat) (vs : List Value) : Prop := w.heap[X]? = some (.cells vs.toArray 122)
theorem YB.cell {w : World} {X : Nat} {vs : List Value} (h : YB w X vs) (j : Nat) : w.cell? ⟨X, j, none⟩ = vs[j]? := by
  unfold World.cell?
  rw [h]
  simp
theorem YB.free {w : World} {X : Nat} {vs : List Value} (h : YB w X vs) (j : Nat) : w.frozen? ⟨X, j, none⟩ = false := by
  unfold World.frozen?
  rw [h]
  rfl
theorem YB.set {w : World} {X : Nat} {vs : List Value} (h : YB w X vs) (j : Nat) (v : Value) : YB (w.setCell ⟨X, j, none⟩ v) X (vs.set j v) := by
  unfold YB at h ⊢
  simp [World.setCell, Array.getElem?_modify, h]
theorem YB.grown {w w' : World} {X G : Nat} {vs : List Value} (h : YB w X vs) (hg : w.grownBy w' (some G)) (hne : X ≠ G) : YB w' X vs :=
  (hg.block X (Array.getElem?_eq_some_iff.1 h).1 (fun e => hne (by injection e))).trans h
/-- The memory of a round: the eyes, the template's box. -/
structure YS (wr : World) (G E X : Nat) (lv : Value) (τ : Ey) (vs : List Value) (w : World) : Prop where
  ps : PS G E lv τ w
  gb : wr.grownBy w (some G)
  bx : YB w X vs
  hX : wr.heap.size ≤ X
  hG : G < wr.heap.size
theorem YS.step {wr : World} {G E X : Nat} {lv : Value} {τ τ' : Ey} {vs : List Value} {w w' : World} (h : YS wr G E X lv τ vs w) (hs : StP G E τ' w w') : ∃ lv', YS wr G E X lv' τ' vs w' := by
  obtain ⟨⟨lv', hp⟩, hg⟩ := hs
  have a := h.hG
  have b := h.hX
  exact ⟨lv', hp, gb_trans h.gb hg, h.bx.grown hg (by omega), b, a⟩
theorem YS.set {wr : World} {G E X : Nat} {lv : Value} {τ : Ey} {vs : List Value} {w : World} (h : YS wr G E X lv τ vs w) (j : Nat) (v : Value) : YS wr G E X lv τ (vs.set j v) (w.setCell ⟨X, j, none⟩ v) :=
  ⟨ps_other h.ps (by have := h.hG; have := h.hX; omega), gb_set_new h.gb h.hX, h.bx.set j v, h.hX, h.hG⟩
end Go.Proofs.YtkopjmofdnlplaaGreatDoor.Tm
