/-
  PROVED HERE: the contract of the document's newEyes. Conditions: as each theorem states.
-/
import Derived.Test.YtofmheeiplagjaaGreatDoorTmG
import Derived.Test.YtofmheeiplagjaaGreatDoorLexG
namespace Go.Proofs.YtofmheeiplagjaaGreatDoor.Tm
open Go.RowKit Go.Proofs.YtofmheeiplagjaaGreatDoor.Lex Go.Proofs.YtofmheeiplagjaaGreatDoor.Dig
/-- Tokens are not empty, and lie in the text. -/
theorem lx_in : ∀ (N : Nat) (m : M) (i : Nat) (l : List UInt8), 2 * l.length + m.rank ≤ N → (∀ w, m = .word w → w < i) → ∀ ps, lx m i l = .ok ps → ∀ p ∈ ps, p.1 < p.2 ∧ p.2 ≤ i + l.length := by
  intro N
  induction N with
  | zero =>
    intro m i l hN hw ps h p hp
    cases m with
    | word w => simp [M.rank] at hN
    | plain =>
      obtain rfl : l = [] := List.eq_nil_of_length_eq_zero (by simp [M.rank] at hN; omega)
      rw [lx] at h; injection h with h; subst h; simp at hp
    | remark =>
      obtain rfl : l = [] := List.eq_nil_of_length_eq_zero (by simp [M.rank] at hN; omega)
      rw [lx] at h; injection h with h; subst h; simp at hp
  | succ N IH =>
    intro m i l hN hw ps h p hp
    cases l with
    | nil =>
      cases m with
      | plain => rw [lx] at h; injection h with h; subst h; simp at hp
      | remark => rw [lx] at h; injection h with h; subst h; simp at hp
      | word w =>
        rw [lx] at h; injection h with h; subst h
        rw [List.mem_singleton] at hp; subst hp
        exact ⟨hw w rfl, by simp⟩
    | cons c r =>
      cases m with
      | remark =>
        rw [lx] at h
        have := IH _ (i + 1) r (by simp [M.rank] at hN; split <;> simp [M.rank] <;> omega) (by intro w e; split at e <;> cases e) ps h p hp
        simp only [List.length_cons]
        omega
      | word w =>
        rw [lx] at h
        by_cases h1 : wch c = true
        · rw [if_pos h1] at h
          have := IH (.word w) (i + 1) r (by simp [M.rank] at hN ⊢; omega) (by intro w' e; injection e with e; subst e; have := hw w rfl; omega) ps h p hp
          simp only [List.length_cons]
          omega
        · rw [if_neg h1] at h
          cases hq : lx .plain i (c :: r) with
          | bad k => rw [hq] at h; cases h
          | ok q =>
            rw [hq] at h
            injection h with h
            subst h
            rcases List.mem_append.1 hp with hp | hp
            · rw [List.mem_singleton] at hp; subst hp
              exact ⟨hw w rfl, by simp⟩
            · exact IH .plain i (c :: r) (by simp [M.rank] at hN ⊢; omega) (by intro w e; cases e) q hq p hp
      | plain =>
        rw [lx] at h
        by_cases h1 : wch c = true
        · rw [if_pos h1] at h
          have := IH (.word i) (i + 1) r (by simp [M.rank] at hN ⊢; omega) (by intro w e; injection e with e; omega) ps h p hp
          simp only [List.length_cons]
          omega
        · rw [if_neg h1] at h
          by_cases h2 : blk c = true
          · rw [if_pos h2] at h
            have := IH .plain (i + 1) r (by simp [M.rank] at hN ⊢; omega) (by intro w e; cases e) ps h p hp
            simp only [List.length_cons]
            omega
          · rw [if_neg h2] at h
            by_cases h3 : c = 35
            · rw [if_pos h3] at h
              have := IH .remark (i + 1) r (by simp [M.rank] at hN ⊢; omega) (by intro w e; cases e) ps h p hp
              simp only [List.length_cons]
              omega
            · rw [if_neg h3] at h
              have hml := mk_le c r
              by_cases h4 : mk c r = 0
              · rw [if_pos h4] at h; cases h
              · rw [if_neg h4] at h
                cases hq : lx .plain (i + mk c r) ((c :: r).drop (mk c r)) with
                | bad k => rw [hq] at h; cases h
                | ok q =>
                  rw [hq] at h
                  injection h with h
                  subst h
                  rcases List.mem_append.1 hp with hp | hp
                  · rw [List.mem_singleton] at hp; subst hp
                    exact ⟨by simp only; omega, by simp only; omega⟩
                  · have := IH .plain _ _ (by simp [M.rank] at hN ⊢; omega) (by intro w e; cases e) q hq p hp
                    rw [List.length_drop] at this
                    omega
theorem lx_few : ∀ (N : Nat) (m : M) (i : Nat) (l : List UInt8), 2 * l.length + m.rank ≤ N → ∀ ps, lx m i l = .ok ps → ps.length ≤ l.length + m.rank := by
  intro N
  induction N with
  | zero =>
    intro m i l hN ps h
    obtain rfl : l = [] := List.eq_nil_of_length_eq_zero (by omega)
    cases m with
    | word w => simp [M.rank] at hN
    | plain => rw [lx] at h; injection h with h; subst h; simp
    | remark => rw [lx] at h; injection h with h; subst h; simp
  | succ N IH =>
    intro m i l hN ps h
    cases l with
    | nil =>
      cases m with
      | plain => rw [lx] at h; injection h with h; subst h; simp
      | remark => rw [lx] at h; injection h with h; subst h; simp
      | word w => rw [lx] at h; injection h with h; subst h; simp [M.rank]
    | cons c r =>
      cases m with
      | remark =>
        rw [lx] at h
        have := IH _ (i + 1) r (by simp [M.rank] at hN; split <;> simp [M.rank] <;> omega) ps h
        simp only [List.length_cons, M.rank] at this ⊢
        split at this <;> omega
      | word w =>
        rw [lx] at h
        by_cases h1 : wch c = true
        · rw [if_pos h1] at h
          have := IH (.word w) (i + 1) r (by simp [M.rank] at hN ⊢; omega) ps h
          simp only [List.length_cons, M.rank] at this ⊢
          omega
        · rw [if_neg h1] at h
          cases hq : lx .plain i (c :: r) with
          | bad k => rw [hq] at h; cases h
          | ok q =>
            rw [hq] at h
            injection h with h
            subst h
            have := IH .plain i (c :: r) (by simp [M.rank] at hN ⊢; omega) q hq
            simp only [List.length_append, List.length_cons, List.length_nil, M.rank] at this ⊢
            omega
      | plain =>
        rw [lx] at h
        by_cases h1 : wch c = true
        · rw [if_pos h1] at h
          have := IH (.word i) (i + 1) r (by simp [M.rank] at hN ⊢; omega) ps h
          simp only [List.length_cons, M.rank] at this ⊢
          omega
        · rw [if_neg h1] at h
          by_cases h2 : blk c = true
          · rw [if_pos h2] at h
            have := IH .plain (i + 1) r (by simp [M.rank] at hN ⊢; omega) ps h
            simp only [List.length_cons, M.rank] at this ⊢
            omega
          · rw [if_neg h2] at h
            by_cases h3 : c = 35
            · rw [if_pos h3] at h
              have := IH .remark (i + 1) r (by simp [M.rank] at hN ⊢; omega) ps h
              simp only [List.length_cons, M.rank] at this ⊢
              omega
            · rw [if_neg h3] at h
              have hml := mk_le c r
              by_cases h4 : mk c r = 0
              · rw [if_pos h4] at h; cases h
              · rw [if_neg h4] at h
                cases hq : lx .plain (i + mk c r) ((c :: r).drop (mk c r)) with
                | bad k => rw [hq] at h; cases h
                | ok q =>
                  rw [hq] at h
                  injection h with h
                  subst h
                  have := IH .plain _ _ (by simp [M.rank] at hN ⊢; omega) q hq
                  rw [List.length_drop] at this
                  simp only [List.length_append, List.length_cons, List.length_nil, M.rank] at this hml ⊢
                  omega
theorem rl_few (s : ByteArray) : (rl s).length ≤ s.size := by
  unfold rl
  split
  · simp
  · split
    · rename_i ps hr
      have := lx_few _ .plain 0 (lst s) (Nat.le_refl _) ps hr
      rw [lst_len] at this
      simpa [tks, M.rank] using this
    · simp
theorem wch_nob {c : UInt8} (h : wch c = true) : c ≠ 32 := by rintro rfl; exact absurd h (by decide)
theorem lx_nob (S : List UInt8) : ∀ (N : Nat) (m : M) (i : Nat) (l : List UInt8), 2 * l.length + m.rank ≤ N → S.drop i = l → (∀ w, m = .word w → ∀ j, w ≤ j → j < i → S[j]? ≠ some 32) → ∀ ps, lx m i l = .ok ps → ∀ p ∈ ps, ∀ j, p.1 ≤ j → j < p.2 → S[j]? ≠ some 32 := by
  have hnext : ∀ {i : Nat} {c : UInt8} {r : List UInt8}, S.drop i = c :: r → S.drop (i + 1) = r ∧ S[i]? = some c := by
    intro i c r h
    refine ⟨?_, ?_⟩
    · have := congrArg (List.drop 1) h
      rw [List.drop_drop] at this
      exact this
    · have := congrArg (fun x => x[0]?) h
      simpa using this
  intro N
  induction N with
  | zero =>
    intro m i l hN _ hw ps h p hp j h1 h2
    obtain rfl : l = [] := List.eq_nil_of_length_eq_zero (by omega)
    cases m with
    | word w => simp [M.rank] at hN
    | plain => rw [lx] at h; injection h with h; subst h; cases hp
    | remark => rw [lx] at h; injection h with h; subst h; cases hp
  | succ N IH =>
    intro m i l hN hl hw ps h p hp
    cases l with
    | nil =>
      cases m with
      | plain => rw [lx] at h; injection h with h; subst h; cases hp
      | remark => rw [lx] at h; injection h with h; subst h; cases hp
      | word w =>
        rw [lx] at h; injection h with h; subst h
        rw [List.mem_singleton] at hp; subst hp
        exact hw w rfl
    | cons c r =>
      obtain ⟨hd, hc⟩ := hnext hl
      cases m with
      | remark =>
        rw [lx] at h
        exact IH _ (i + 1) r (by simp [M.rank] at hN; split <;> simp [M.rank] <;> omega) hd (by intro w e; split at e <;> cases e) ps h p hp
      | word w =>
        rw [lx] at h
        by_cases h1 : wch c = true
        · rw [if_pos h1] at h
          refine IH (.word w) (i + 1) r (by simp [M.rank] at hN ⊢; omega) hd (fun w' e j a b => ?_) ps h p hp
          injection e with e
          subst e
          rcases Nat.lt_or_ge j i with h3 | h3
          · exact hw w rfl j a h3
          · obtain rfl : j = i := by omega
            rw [hc]
            exact fun e => wch_nob h1 (by injection e)
        · rw [if_neg h1] at h
          cases hq : lx .plain i (c :: r) with
          | bad k => rw [hq] at h; cases h
          | ok q =>
            rw [hq] at h
            injection h with h
            subst h
            rcases List.mem_append.1 hp with hp | hp
            · rw [List.mem_singleton] at hp; subst hp
              exact hw w rfl
            · exact IH .plain i (c :: r) (by simp [M.rank] at hN ⊢; omega) hl (by intro w e; cases e) q hq p hp
      | plain =>
        rw [lx] at h
        by_cases h1 : wch c = true
        · rw [if_pos h1] at h
          refine IH (.word i) (i + 1) r (by simp [M.rank] at hN ⊢; omega) hd (fun w' e j a b => ?_) ps h p hp
          injection e with e
          subst e
          obtain rfl : j = i := by omega
          rw [hc]
          exact fun e => wch_nob h1 (by injection e)
        · rw [if_neg h1] at h
          by_cases h2 : blk c = true
          · rw [if_pos h2] at h
            exact IH .plain (i + 1) r (by simp [M.rank] at hN ⊢; omega) hd (by intro w e; cases e) ps h p hp
          · rw [if_neg h2] at h
            by_cases h3 : c = 35
            · rw [if_pos h3] at h
              exact IH .remark (i + 1) r (by simp [M.rank] at hN ⊢; omega) hd (by intro w e; cases e) ps h p hp
            · rw [if_neg h3] at h
              have hml := mk_le c r
              by_cases h4 : mk c r = 0
              · rw [if_pos h4] at h; cases h
              · rw [if_neg h4] at h
                cases hq : lx .plain (i + mk c r) ((c :: r).drop (mk c r)) with
                | bad k => rw [hq] at h; cases h
                | ok q =>
                  rw [hq] at h
                  injection h with h
                  subst h
                  rcases List.mem_append.1 hp with hp | hp
                  · rw [List.mem_singleton] at hp; subst hp
                    simp only
                    intro j a b
                    have hc32 : c ≠ 32 := by rintro rfl; exact h2 (by decide)
                    rcases Nat.lt_or_ge i j with h5 | h5
                    · unfold mk at h4 b
                      split at b
                      · rename_i hm
                        simp only [Bool.and_eq_true, beq_iff_eq] at hm
                        obtain rfl : j = i + 1 := by omega
                        cases r with
                        | nil => simp at hm
                        | cons d r' =>
                          rw [(hnext hd).2]
                          intro e
                          injection e with e
                          subst e
                          simp at hm
                      · split at b <;> omega
                    · obtain rfl : j = i := by omega
                      rw [hc]
                      exact fun e => hc32 (by injection e)
                  · refine IH .plain _ _ (by simp [M.rank] at hN ⊢; omega) ?_ (by intro w e; cases e) q hq p hp
                    rw [← hl, List.drop_drop]
theorem allT_rl {s : ByteArray} (hs : s.size ≤ 900 ∨ 3000 < s.size) : AllT (rl s) := by
  intro t ht
  unfold rl at ht
  by_cases h : 3000 < s.size
  · rw [if_pos h] at ht; simp at ht
  · rw [if_neg h] at ht
    cases hr : ro s with
    | bad i => rw [hr] at ht; simp at ht
    | ok ps =>
      rw [hr] at ht
      simp only [tks, List.mem_map] at ht
      obtain ⟨p, hp, rfl⟩ := ht
      have := lx_in _ .plain 0 (lst s) (Nat.le_refl _) (by intro w e; cases e) ps hr p hp
      rw [lst_len] at this
      have hn := lx_nob (lst s) _ .plain 0 (lst s) (Nat.le_refl _) rfl (by intro w e; cases e) ps hr p hp
      simp only [ByteArray.size_extract]
      refine ⟨by omega, by omega, by omega, fun c hc => ?_⟩
      simp only [ByteArray.data_extract, Array.toList_extract] at hc
      obtain ⟨j, hj, rfl⟩ := List.mem_iff_getElem.1 hc
      intro e
      have hl : (s.data.toList).length = s.size := rfl
      simp only [List.extract_eq_take_drop, List.length_take, List.length_drop] at hj
      refine hn (p.1 + j) (by omega) (by omega) ?_
      simp only [List.extract_eq_take_drop, List.getElem_take, List.getElem_drop] at e
      rw [← e]
      exact List.getElem?_eq_getElem (by unfold lst; omega)
theorem good_any (W : World) : Calls Tryz.prog 25 #[] W fun e w' => e = .returned (.agg #[.int .i64 0, .int .i64 (-1)]) ∧ Below W.heap.size W w' := by
  go_enter Tryz.func25, Tryz.ntmps25
  go_wp2_with fail
  refine bodyPost_ret (v := .agg #[.int .i64 0, .int .i64 (-1)]) (by simp [results, Tryz.results25, go_sem]) rfl ⟨rfl, ?_⟩
  exact (Below.refl _ _).alloc (Nat.le_refl _) _
def NeP (s : ByteArray) (W : World) (e : Ending) (w' : World) : Prop := ∃ (G : Nat) (lv : Value), e = .returned (.tuple #[.pointer (some ⟨G, 0, none⟩), .agg #[.int .i64 (rc s), .int .i64 (rp s)]]) ∧ PS G s.size lv ⟨0, -1, rl s⟩ w' ∧ Below W.heap.size W w' ∧ W.heap.size ≤ G
theorem ne_kept {w1 w4 : World} {R G : Nat} {v : Value} {l : List Tk} {x y : Int} (hT : Tks w1 v l) (hR : w1.heap[R]? = some (.cells #[.int .i64 x, .int .i64 y] 27)) (hk : ∀ k, k < w1.heap.size → k ≠ R → w4.heap[k]? = w1.heap[k]?) (hG : w1.heap.size ≤ G) :
    Tks w4 v l ∧ (l ≠ [] → ∀ k, v.ownBlock = some k → k < G) := by
  have key : l ≠ [] → ∀ k, v.ownBlock = some k → k < w1.heap.size ∧ k ≠ R := by
    intro hl k hk
    obtain ⟨a, cap, rfl, _, hc⟩ := hT
    obtain ⟨ad, rfl, h1, _⟩ := hc 0 (List.length_pos_iff.2 hl)
    have hb : ad.block = k := by simpa [Value.ownBlock] using hk
    have hb' : (ad.add (0 * 2)).block = k := by rw [← hb]; unfold Addr.add; split <;> rfl
    refine ⟨by rw [← hb']; exact World.block_lt_of_cell? w1 _ h1, fun e => ?_⟩
    rw [e] at hb'
    unfold World.cell? at h1
    rw [hb', hR] at h1
    generalize (ad.add (0 * 2)).off = o at h1
    rcases o with _ | _ | o <;> simp at h1
  exact ⟨tks_kept hT fun hl k e => hk k (key hl k e).1 (key hl k e).2, fun hl k e => Nat.lt_of_lt_of_le (key hl k e).1 hG⟩
theorem ne_fin {s : ByteArray} {W w1 w4 : World} {G : Nat} {a : Option Addr} {c : Nat} (hT : Tks w1 (.slice a (rl s).length c) (rl s)) (hR : w1.heap[W.heap.size]? = some (.cells #[.int .i64 0, .int .i64 0] 27))
    (hk : ∀ k, k < w1.heap.size → k ≠ W.heap.size → w4.heap[k]? = w1.heap[k]?) (hG : w1.heap.size ≤ G) (hB : Below W.heap.size W w1) (hw : w4.os = w1.os ∧ w4.tape = w1.tape ∧ w4.output = w1.output ∧ w1.heap.size ≤ w4.heap.size)
    (hb : w4.heap[G]? = some (.cells #[.slice a (rl s).length c, .int .i64 (s.size : Nat), .int .i64 0, .int .i64 (-1)] 59)) :
    NeP s W (.returned (.tuple #[.pointer (some ⟨G, 0, none⟩), .agg #[.int .i64 (rc s), .int .i64 (rp s)]])) w4 := by
  obtain ⟨k1, k2⟩ := ne_kept hT hR hk hG
  refine ⟨G, _, rfl, ⟨by unfold World.cell?; rw [hb]; rfl, by unfold World.cell?; rw [hb]; rfl, by unfold World.cell?; rw [hb]; rfl, by unfold World.cell?; rw [hb]; rfl, fun j => by unfold World.frozen?; rw [hb]; rfl, k1, k2, (Array.getElem?_eq_some_iff.1 hb).1⟩, ?_, Nat.le_trans hB.size hG⟩
  exact ⟨hw.1.trans hB.os, hw.2.1.trans hB.tape, hw.2.2.1.trans hB.output, Nat.le_trans hB.size hw.2.2.2, fun k hk2 => (hk k (Nat.lt_of_lt_of_le hk2 hB.size) (by omega)).trans (hB.block k hk2)⟩
theorem heap_alloc_at (w : World) (o : Obj) {n : Nat} (h : n = w.heap.size) : (w.alloc o).heap[n]? = some o := by subst h; exact heap_alloc_new _ _
theorem ne_results (tmps : Array Value) (w : World) (g : Nat) (v0 v1 : Value) (h3 : tmps.getD 3 undef = .pointer (some ⟨g, 0, none⟩)) (c0 : w.cell? ⟨g, 0, none⟩ = some v0) (c1 : w.cell? ⟨g, 1, none⟩ = some v1) :
    (results Tryz.f20 tmps).run Tryz.prog w = .ok (.tuple #[tmps.getD 2 undef, .agg #[v0, v1]]) w := by
  have h3' : tmps[3]?.getD undef = .pointer (some ⟨g, 0, none⟩) := by simpa using h3
  simp only [results, Tryz.f20]
  simp [go_sem, h3', c0, c1]
set_option maxRecDepth 100000 in
set_option maxHeartbeats 2000000 in
theorem newEyes_any (s : ByteArray) (hs : s.size ≤ 4000) (W : World) : Calls Tryz.prog 20 #[.string s] W (NeP s W) := by
  go_enter Tryz.func20, Tryz.ntmps20
  go_wp2_with fail
  refine (docLex_any s hs _).mono ?_; rintro e w1 ⟨v, rfl, ht, hb⟩
  have hT := Lib.hid ht
  obtain ⟨a1, c1, rfl, _⟩ := ht
  have hB := Lib.hid hb
  clear hb
  have hW1 := hB.out.size
  rw [show (W.alloc (.cells #[.int .i64 0, .int .i64 0] 27)).heap.size = W.heap.size + 1 by simp] at hW1 hB
  have B1 := Lib.hid (show Below W.heap.size W w1 from ((Below.refl _ _).alloc (Nat.le_refl _) _).trans ⟨hB.out.os, hB.out.tape, hB.out.output, hB.out.size, fun k hk => hB.out.block k (by omega)⟩)
  have hr := (hB.out.block W.heap.size (by omega)).trans (heap_alloc_new _ _)
  have HR := Lib.hid hr
  go_upto_region 2 with fail
  obtain ⟨w2, hw2⟩ : ∃ w2, w2 = w1.alloc (.cells #[.int .i64 (rc s), .int .i64 (rp s)] 27) := ⟨_, rfl⟩
  have hF : w2.heap[w1.heap.size]? = some (.cells #[.int .i64 (rc s), .int .i64 (rp s)] 27) := by rw [hw2]; exact heap_alloc_new _ _
  have hR : w2.heap[W.heap.size]? = some (.cells #[.int .i64 0, .int .i64 0] 27) := by rw [hw2]; exact (heap_alloc_old _ _ (by omega)).trans hr
  have B2 := Lib.hid (show Below w1.heap.size w1 w2 by rw [hw2]; exact (Below.refl _ _).alloc (Nat.le_refl _) _)
  have hs2 : w2.heap.size = w1.heap.size + 1 := by rw [hw2]; simp
  rw [← hw2]
  clear hw2 hr hB
  have y0 : w2.cell? ⟨w1.heap.size, 0, none⟩ = some (.int .i64 (rc s)) := by unfold World.cell?; rw [hF]; rfl
  have y1 : w2.cell? ⟨w1.heap.size, 1, none⟩ = some (.int .i64 (rp s)) := by unfold World.cell?; rw [hF]; rfl
  have r0 : w2.cell? ⟨W.heap.size, 0, none⟩ = some (.int .i64 0) := by unfold World.cell?; rw [hR]; rfl
  have r1 : w2.cell? ⟨W.heap.size, 1, none⟩ = some (.int .i64 0) := by unfold World.cell?; rw [hR]; rfl
  have g0 : ∀ j, w2.frozen? ⟨W.heap.size, j, none⟩ = false := fun j => by unfold World.frozen?; rw [hR]; rfl
  clear hF hR
  have y0d : w2.drew.cell? ⟨w1.heap.size, 0, none⟩ = some (.int .i64 (rc s)) := y0
  have y1d : w2.drew.cell? ⟨w1.heap.size, 1, none⟩ = some (.int .i64 (rp s)) := y1
  have r0d : w2.drew.cell? ⟨W.heap.size, 0, none⟩ = some (.int .i64 0) := r0
  have r1d : w2.drew.cell? ⟨W.heap.size, 1, none⟩ = some (.int .i64 0) := r1
  have g0d : ∀ j, w2.drew.frozen? ⟨W.heap.size, j, none⟩ = false := g0
  go_region_with (first | (go_at_call 25; refine (good_any _).mono ?_; rintro e w3 ⟨rfl, hb3⟩; have z0 : w3.cell? ⟨w1.heap.size, 0, none⟩ = some (.int .i64 (rc s)) := keepCell hb3 y0d; have z1 : w3.cell? ⟨w1.heap.size, 1, none⟩ = some (.int .i64 (rp s)) := keepCell hb3 y1d; have q0 : w3.cell? ⟨W.heap.size, 0, none⟩ = some (.int .i64 0) := keepCell hb3 r0d; have q1 : w3.cell? ⟨W.heap.size, 1, none⟩ = some (.int .i64 0) := keepCell hb3 r1d; have p0 : w3.frozen? ⟨W.heap.size, 0, none⟩ = false := keepFree hb3 r0d (g0d 0); have p1 : w3.frozen? ⟨W.heap.size, 1, none⟩ = false := keepFree hb3 r1d (g0d 1); have l3 : w1.heap.size < w3.heap.size := World.block_lt_of_cell? w3 _ z0; have m3 : W.heap.size < w3.heap.size := World.block_lt_of_cell? w3 _ q0; have n3 : ¬ w3.heap.size = w1.heap.size := (fun e => absurd l3 (by rw [e]; exact Nat.lt_irrefl _)); have n4 : ¬ w1.heap.size = w3.heap.size := (fun e => n3 e.symm); have n5 : ¬ w3.heap.size = W.heap.size := (fun e => absurd m3 (by rw [e]; exact Nat.lt_irrefl _)); have n6 : ¬ W.heap.size = w3.heap.size := (fun e => n5 e.symm); have H3 := Lib.hid hb3; clear hb3))
  all_goals
    go_wp2_with fail
    have b3 := H3.out
    refine bodyPost_ret (ne_results _ _ W.heap.size (.int .i64 (rc s)) (.int .i64 (rp s)) rfl ?_ ?_) rfl ?_
    · go_simp
    · go_simp
    refine ne_fin hT.out HR.out (fun k h1 h2 => ?_) (show w1.heap.size ≤ w3.heap.size by omega) B1.out ?_ ?_
    · first
        | exact (heap_alloc_old _ _ (by simp [World.setCell]; omega)).trans ((Below.heap_setCell _ _ _ _ h2).trans ((Below.heap_setCell _ _ _ _ h2).trans ((b3.block k (show k < w2.heap.size by omega)).trans (B2.out.block k h1))))
        | exact (Below.heap_setCell _ _ _ _ h2).trans ((Below.heap_setCell _ _ _ _ h2).trans ((heap_alloc_old _ _ (by omega)).trans ((b3.block k (show k < w2.heap.size by omega)).trans (B2.out.block k h1))))
    · have s3 : w1.heap.size ≤ w3.heap.size := by omega
      exact ⟨b3.os.trans B2.out.os, b3.tape.trans B2.out.tape, b3.output.trans B2.out.output, by simp [World.setCell]; omega⟩
    · first
        | exact (Below.heap_setCell _ _ _ _ n5).trans ((Below.heap_setCell _ _ _ _ n5).trans (heap_alloc_new _ _))
        | exact heap_alloc_at _ _ rfl
        | exact heap_alloc_at _ _ (by simp [World.setCell])
        | exact (Below.heap_setCell _ _ _ _ n5).trans (heap_alloc_at _ _ (by simp [World.setCell]))
end Go.Proofs.YtofmheeiplagjaaGreatDoor.Tm
