/-
  PROVED HERE: the contract of the document's TypesOrder. Conditions: as each theorem states.
-/
import Derived.Test.YtpnjlmpamincoaaTnH
namespace Go.Proofs.Ytpnjlmpamincoaa.Tm
open Go.RowKit Go.Proofs.Ytpnjlmpamincoaa.Lex Go.Proofs.Ytpnjlmpamincoaa.Dig
theorem MI.at_ {w w' : World} {b n : Nat} {M : Int → Bool} (h : MI w b n M) (e : w'.heap[b]? = w.heap[b]?) : MI w' b n M := by
  obtain ⟨D, ⟨es, c, h1, h2⟩, h3⟩ := h
  exact ⟨D, ⟨es, c, e.trans h1, h2⟩, h3⟩
/-- The memory of a call of TypesOrder: the map of what is done, the list. -/
structure DB (W : World) (n : Nat) (D : Int → Bool) (ov : Value) (out : List Int) (w : World) : Prop where
  bl : Below W.heap.size W w
  mi : MI w W.heap.size n D
  ow : Own w (W.heap.size + 1) 3 ov (i64s out)
theorem DB.size {W w : World} {n : Nat} {D : Int → Bool} {ov : Value} {out : List Int} (h : DB W n D ov out w) : W.heap.size + 1 ≤ w.heap.size := h.mi.lt
theorem DB.below {W w w' : World} {n : Nat} {D : Int → Bool} {ov : Value} {out : List Int} (h : DB W n D ov out w) (hb : Below w.heap.size w w') : DB W n D ov out w' :=
  ⟨h.bl.trans (hb.mono h.bl.size), h.mi.below hb, h.ow.below hb⟩
theorem DB.app {W w w' : World} {n : Nat} {D : Int → Bool} {ov v' : Value} {out out' : List Int} (h : DB W n D ov out w) (hb : Below (W.heap.size + 1) w w') (ho : Own w' (W.heap.size + 1) 3 v' (i64s out')) : DB W n D v' out' w' :=
  ⟨h.bl.trans (hb.mono (Nat.le_succ _)), h.mi.at_ (hb.block _ (Nat.lt_succ_self _)), ho⟩
theorem DB.put {W w w' : World} {n n' : Nat} {D D' : Int → Bool} {ov : Value} {out : List Int} (h : DB W n D ov out w) (hg : w.grownBy w' (some W.heap.size)) (hm : MI w' W.heap.size n' D') : DB W n' D' ov out w' := by
  refine ⟨h.bl.trans ⟨hg.os, hg.tape, hg.output, hg.size, fun k hk => hg.block k (Nat.lt_of_lt_of_le hk h.bl.size) (fun e => by injection e; omega)⟩, hm, h.ow.keep hg ?_⟩
  cases e : ov.ownBlock with
  | none => exact .inl rfl
  | some k =>
    refine .inr (fun e2 => ?_)
    injection e2 with e2
    have := (h.ow.lt k e).1
    omega
def doneP (l : List It) (out : List Int) (D : Int → Bool) : Prop := ∀ j : Nat, j < l.length → D (j : Int) = (ruleAt l j == 3 && decide ((j : Int) ∈ out))
def Do1R (W : World) (l : List It) (ov i : Value) (wr : World) : Prop := ∃ k : Nat, i = .int .i64 k ∧ k ≤ l.length ∧ (∃ a n c, ov = .slice a n c) ∧ Hid (DB W 0 (fun _ => false) ov (out0 l k) wr)
def Do2R (W : World) (l : List It) (g : Nat) (ov ag : Value) (wr : World) : Prop := ∃ (out : List Int) (n : Nat) (D : Int → Bool) (b : Bool), ag = .bool b ∧ (∃ a n c, ov = .slice a n c) ∧ Hid (DB W n D ov out wr) ∧ Hid (doneP l out D) ∧ Hid (ord l out = ord l (out0 l l.length)) ∧ out.length + lft l.length out ≤ 32 ∧ n + lft l.length out ≤ 32 ∧ g = 2 * lft l.length out + (if b = true then 1 else 0) ∧ Hid (b = false → nextF l out (List.range l.length) = none)
def Do3R (W : World) (l : List It) (n : Nat) (D : Int → Bool) (ov : Value) (out : List Int) (i : Value) (wr : World) : Prop := ∃ k : Nat, i = .int .i64 k ∧ k ≤ l.length ∧ Hid (DB W n D ov out wr) ∧ Hid (∀ j, j < k → okAt l out j = false)
theorem done_start (l : List It) : doneP l (out0 l l.length) (fun _ => false) := by
  intro j hj
  symm
  rw [Bool.and_eq_false_iff]
  by_cases h : ruleAt l j = 3
  · right
    rw [decide_eq_false_iff_not]
    intro hm
    unfold out0 at hm
    obtain ⟨k, hk, he⟩ := List.mem_map.1 hm
    obtain ⟨_, h2⟩ := List.mem_filter.1 hk
    obtain rfl : k = j := by
      have : (k : Int) = (j : Int) := he
      omega
    rw [h] at h2
    cases h2
  · left
    simpa using h
theorem nextF_none {l : List It} {out : List Int} : ∀ (r : List Nat), (∀ j ∈ r, okAt l out j = false) → nextF l out r = none := by
  intro r
  induction r with
  | nil => intro _; rfl
  | cons x r ih =>
    intro h
    rw [nextF, h x List.mem_cons_self, if_neg (by decide)]
    exact ih fun j hj => h j (List.mem_cons_of_mem _ hj)
theorem nextF_first {l : List It} {out : List Int} {k : Nat} (hk : k < l.length) (h : ∀ j, j < k → okAt l out j = false) (ho : okAt l out k = true) : nextF l out (List.range l.length) = some k := by
  have key : ∀ (n s : Nat), s ≤ k → k < s + n → nextF l out (List.range' s n) = some k := by
    intro n
    induction n with
    | zero => intro s h1 h2; omega
    | succ n ih =>
      intro s h1 h2
      rw [List.range'_succ, nextF]
      by_cases e : s = k
      · subst e; rw [if_pos ho]
      · rw [h s (by omega), if_neg (by decide)]
        exact ih (s + 1) (by omega) (by omega)
  rw [List.range_eq_range']
  exact key _ 0 (Nat.zero_le _) (by omega)
theorem done_put {l : List It} {out : List Int} {D : Int → Bool} {k : Nat} (h : doneP l out D) (hr : ruleAt l k = 3) : doneP l (out ++ [(k : Int)]) (fun y => if y = (k : Int) then true else D y) := by
  intro j hj
  simp only
  by_cases e : (j : Int) = (k : Int)
  · obtain rfl : j = k := by omega
    rw [if_pos rfl, hr]
    simp
  · rw [if_neg e, h j hj]
    simp [e]
theorem cov_rule {l : List It} {j k : Nat} (h : k ∈ cov l j) : k < l.length ∧ ruleAt l k = 3 := by
  have hk := cov_lt h
  refine ⟨hk, ?_⟩
  unfold cov at h
  split at h
  · obtain ⟨_, h2⟩ := List.mem_filter.1 h
    unfold coverP at h2
    rw [List.getElem?_eq_getElem hk] at h2
    simp only [Bool.and_eq_true, beq_iff_eq] at h2
    rw [ruleAt_at hk]
    exact h2.2
  · cases h
theorem ok_done {l : List It} {out : List Int} {D : Int → Bool} {k : Nat} (h : doneP l out D) (hk : k < l.length) (hr : ruleAt l k = 3) : okAt l out k = (!D (k : Int) && (cov l k).all fun j => D (j : Int)) := by
  unfold okAt
  rw [h k hk, hr]
  simp only [BEq.rfl, Bool.true_and]
  congr 1
  rw [Bool.eq_iff_iff, List.all_eq_true, List.all_eq_true]
  constructor
  · intro h2 j hj
    obtain ⟨h3, h4⟩ := cov_rule hj
    rw [h j h3, h4, h2 j hj]
    rfl
  · intro h2 j hj
    obtain ⟨h3, h4⟩ := cov_rule hj
    have := h2 j hj
    rw [h j h3, h4] at this
    simpa using this
theorem all_take {α : Type} {p : α → Bool} {l : List α} {k : Nat} (h : k < l.length) : (l.take (k + 1)).all p = ((l.take k).all p && p l[k]) := by
  rw [List.take_succ_eq_append_getElem h, List.all_append]
  simp
section
variable {W : World}
set_option maxRecDepth 100000 in
set_option maxHeartbeats 4000000 in
theorem docOrder_any (v : Value) (l : List It) (hl : l.length ≤ 16) (h : ItsAt W v l) : Calls Try.prog 12 #[v] W fun e w' => ∃ u, e = .returned u ∧ Own w' W.heap.size 3 u (i64s (ord l (out0 l l.length))) ∧ Below W.heap.size W w' := by
  obtain ⟨a, cap, rfl, hcap, _⟩ := id h
  have HI := Lib.hid h
  have hmm := @run_makeMap Try.prog
  clear h
  go_enter Try.func12, Try.ntmps12
  go_upto_region 3 with fail
  have m0 := Lib.hid (show DB W 0 (fun _ => false) (.slice none 0 0) (out0 l 0) (W.alloc (.map #[] 0)) from ⟨(Below.refl _ _).alloc (Nat.le_refl _) _, mI_new W, own_nil _ _ _⟩)
  generalize W.alloc (.map #[] 0) = w0 at *
  clear hmm
  go_wp2_with fail
  go_loopw [3, 16] (fun ov i wr => Do1R W l ov i wr) (fun _ i _ => l.length - (intOf i).toNat)
  case atStart => exact ⟨0, rfl, Nat.zero_le _, ⟨_, _, _, rfl⟩, m0⟩
  case round =>
    clear m0
    obtain ⟨k, rfl, hk, ⟨oa, on, oc, rfl⟩, hB⟩ := hrel
    by_cases hlt : k < l.length
    · have hI1 := HI.out.below hB.out.bl
      have hst := Lib.hid (out0_step l k)
      have hol := out0_len l k
      obtain ⟨b, o, cv, iv, rfl, hc, hit⟩ := its_at hI1 k hlt
      obtain ⟨⟨p8, rfl⟩, a12, c12, rfl⟩ := it_forms hit
      have i1 : (0 : Int) ≤ (k : Int) := by omega
      have i2 : (k : Int) < (l.length : Int) := by omega
      have hrk := ruleAt_at hlt
      clear hit hI1
      generalize l[k] = x at *
      have z0 : wr.cell? ⟨b, o + k * 13, none⟩ = some (.int .i64 x.kind) := hc 0 _ rfl
      have z1 : wr.cell? ⟨b, o + k * 13 + 1, none⟩ = some (.int .i64 (x.at_ : Nat)) := hc 1 _ rfl
      have z2 : wr.cell? ⟨b, o + k * 13 + 2, none⟩ = some (.string x.name) := hc 2 _ rfl
      have z3 : wr.cell? ⟨b, o + k * 13 + 3, none⟩ = some (.string x.type) := hc 3 _ rfl
      have z4 : wr.cell? ⟨b, o + k * 13 + 4, none⟩ = some (.int .i64 x.width) := hc 4 _ rfl
      have z5 : wr.cell? ⟨b, o + k * 13 + 5, none⟩ = some (.int .i64 x.order) := hc 5 _ rfl
      have z6 : wr.cell? ⟨b, o + k * 13 + 6, none⟩ = some (.bool x.signed) := hc 6 _ rfl
      have z7 : wr.cell? ⟨b, o + k * 13 + 7, none⟩ = some (.bool x.many) := hc 7 _ rfl
      have z8 : wr.cell? ⟨b, o + k * 13 + 8, none⟩ = some (.pointer p8) := hc 8 _ rfl
      have z9 : wr.cell? ⟨b, o + k * 13 + 9, none⟩ = some (.int .i64 x.rule) := hc 9 _ rfl
      have z10 : wr.cell? ⟨b, o + k * 13 + 10, none⟩ = some (.string x.first) := hc 10 _ rfl
      have z11 : wr.cell? ⟨b, o + k * 13 + 11, none⟩ = some (.string x.last) := hc 11 _ rfl
      have z12 : wr.cell? ⟨b, o + k * 13 + 12, none⟩ = some (.slice a12 x.items.length c12) := hc 12 _ rfl
      clear hc
      go_upto_region 6 with fail
      have HX := (show IB (wr.alloc (.cells #[.int .i64 x.kind, .int .i64 (x.at_ : Nat), .string x.name, .string x.type, .int .i64 x.width, .int .i64 x.order, .bool x.signed, .bool x.many, .pointer p8, .int .i64 x.rule, .string x.first, .string x.last, .slice a12 x.items.length c12] 42)) wr.heap.size (itVals x (.pointer p8) (.slice a12 x.items.length c12)) from heap_alloc_new _ _)
      have hbw := Lib.hid (show Below wr.heap.size wr (wr.alloc (.cells #[.int .i64 x.kind, .int .i64 (x.at_ : Nat), .string x.name, .string x.type, .int .i64 x.width, .int .i64 x.order, .bool x.signed, .bool x.many, .pointer p8, .int .i64 x.rule, .string x.first, .string x.last, .slice a12 x.items.length c12] 42)) from (Below.refl _ _).alloc (Nat.le_refl _) _)
      generalize wr.alloc (.cells #[.int .i64 x.kind, .int .i64 (x.at_ : Nat), .string x.name, .string x.type, .int .i64 x.width, .int .i64 x.order, .bool x.signed, .bool x.many, .pointer p8, .int .i64 x.rule, .string x.first, .string x.last, .slice a12 x.items.length c12] 42) = w1 at *
      have B1 := Lib.hid (hB.out.below hbw.out)
      have y9 : w1.cell? ⟨wr.heap.size, 9, none⟩ = some (.int .i64 x.rule) := HX.cell 9
      have hX1 := HX.lt
      obtain ⟨X, hXe⟩ : ∃ X, wr.heap.size = X := ⟨_, rfl⟩
      rw [hXe] at y9 hX1 ⊢
      obtain ⟨ru, hru⟩ : ∃ y, x.rule = y := ⟨_, rfl⟩
      rw [hru] at y9 hrk
      clear z0 z1 z2 z3 z4 z5 z6 z7 z8 z9 z10 z11 z12 hB hbw HX hru
      clear hXe
      rw [hrk] at hst
      by_cases h1 : ru = 1
      · subst h1
        have hM := Lib.hid (hst.out.trans (if_pos (by simp)))
        clear hst
        go_wp2_with (at_builtin; refine own_append1 rfl _ _ 38 rfl (W.heap.size + 1) 3 (.int .i64 0) 8 Try.underlying38 (by kernel_rfl) rfl (.slice oa on oc) _ rfl (B1.out.ow.alloc _) _ 1 _ rfl (new_cell _ _ _) rfl (by rw [i64s_len]; omega) (by rw [i64s_len]; omega) (le_alloc B1.out.size _) ?_; intro v1 w3 ho1 hg1 hb1 hat1; rw [i64s_snoc, ← hM.out] at ho1; have hAB := ((Below.refl (W.heap.size + 1) w1).alloc B1.out.size (.cells #[.int .i64 (k : Nat)] 3)).trans hb1; have HPT := Lib.hid (B1.out.app hAB ho1); obtain ⟨a6, c6, e6⟩ := ho1.len; subst e6; clear hg1 hb1 hat1 ho1 hAB)
        refine ⟨⟨k + 1, by go_num, hlt, ⟨_, _, _, rfl⟩, HPT⟩, by first | (simp [intOf]; done) | (simp [intOf]; omega)⟩
      · have e1 : (ru == 1) = false := by simpa using h1
        by_cases h2 : ru = 2
        · subst h2
          have hM := Lib.hid (hst.out.trans (if_pos (by simp)))
          clear hst
          go_wp2_with (at_builtin; refine own_append1 rfl _ _ 38 rfl (W.heap.size + 1) 3 (.int .i64 0) 8 Try.underlying38 (by kernel_rfl) rfl (.slice oa on oc) _ rfl (B1.out.ow.alloc _) _ 1 _ rfl (new_cell _ _ _) rfl (by rw [i64s_len]; omega) (by rw [i64s_len]; omega) (le_alloc B1.out.size _) ?_; intro v1 w3 ho1 hg1 hb1 hat1; rw [i64s_snoc, ← hM.out] at ho1; have hAB := ((Below.refl (W.heap.size + 1) w1).alloc B1.out.size (.cells #[.int .i64 (k : Nat)] 3)).trans hb1; have HPT := Lib.hid (B1.out.app hAB ho1); obtain ⟨a6, c6, e6⟩ := ho1.len; subst e6; clear hg1 hb1 hat1 ho1 hAB)
          refine ⟨⟨k + 1, by go_num, hlt, ⟨_, _, _, rfl⟩, HPT⟩, by first | (simp [intOf]; done) | (simp [intOf]; omega)⟩
        · have e2 : (ru == 2) = false := by simpa using h2
          have hM := Lib.hid (hst.out.trans (if_neg (by rw [e1, e2]; decide)))
          clear hst h1 h2
          go_wp2_with fail
          refine ⟨⟨k + 1, by go_num, hlt, ⟨_, _, _, rfl⟩, by rw [hM.out]; exact B1⟩, by first | (simp [intOf]; done) | (simp [intOf]; omega)⟩
    · have i2 : ¬ (k : Int) < (l.length : Int) := by omega
      obtain rfl : k = l.length := by omega
      have hol := out0_len l l.length
      have hlf := lft_le l.length (out0 l l.length)
      clear hlt hk
      go_wp2_with fail
      go_loopg [3, 7] (2 * lft l.length (out0 l l.length) + 1) (fun g ov ag wr => Do2R W l g ov ag wr)
      case atStart => exact ⟨_, 0, _, true, rfl, ⟨_, _, _, rfl⟩, hB, Lib.hid (done_start l), Lib.hid rfl, by omega, by omega, rfl, Lib.hid (fun h => by cases h)⟩
      case round =>
        clear hB hol hlf
        obtain ⟨out, n, D, bg, rfl, ⟨oa, on, oc, rfl⟩, hB, hD, hO, hlen, hnn, hg, hN⟩ := hrel
        cases bg with
        | false =>
          have hR := Lib.hid ((ord_none (hN.out rfl)).symm.trans hO.out)
          go_wp2_with fail
          go_ret
          exact ⟨_, rfl, by rw [← hR.out]; exact hB.out.ow.base (Nat.le_succ _), hB.out.bl⟩
        | true =>
          have hg : gk = 2 * lft l.length out + 1 := hg
          clear hN
          go_wp2_with fail
          go_loopw [3, 7, 37] (fun ov ag i wr => ov = .slice oa on oc ∧ ag = .bool false ∧ Do3R W l n D (.slice oa on oc) out i wr) (fun _ _ i _ => l.length - (intOf i).toNat)
          case atStart => exact ⟨rfl, rfl, 0, rfl, Nat.zero_le _, hB, Lib.hid (fun j hj => absurd hj (Nat.not_lt_zero j))⟩
          case round =>
            clear hB
            obtain ⟨rfl, rfl, k, rfl, hk, hB, hA⟩ := hrel
            by_cases hlt : k < l.length
            · have hI1 := HI.out.below hB.out.bl
              have hOK := Lib.hid (ok_done (k := k) hD.out hlt)
              have hno := Lib.hid (show ruleAt l k ≠ 3 → okAt l out k = false from fun h => by unfold okAt; rw [show (ruleAt l k == 3) = false by simpa using h]; rfl)
              have hnx := Lib.hid (fun (h : okAt l out k = false) => (show ∀ j, j < k + 1 → okAt l out j = false from fun j hj => by rcases Nat.lt_or_ge j k with e | e; exact hA.out j e; rw [show j = k by omega]; exact h))
              have hfs := Lib.hid (fun (h : okAt l out k = true) => nextF_first hlt hA.out h)
              have hI2 := Lib.hid (fun w (hb : Below W.heap.size W w) => covers_any (W := w) _ l hl (HI.out.below hb) k hlt)
              rw [← cov_at hlt] at hI2
              have hdp := Lib.hid (done_put (k := k) hD.out)
              have hcl : (cov l k).length ≤ 16 := by rw [cov_at hlt]; unfold coversF; exact Nat.le_trans (List.length_filter_le _ _) (by rw [List.length_range]; exact hl)
              obtain ⟨b, o, cv, iv, rfl, hc, hit⟩ := its_at hI1 k hlt
              obtain ⟨⟨p8, rfl⟩, a12, c12, rfl⟩ := it_forms hit
              have i1 : (0 : Int) ≤ (k : Int) := by omega
              have i2 : (k : Int) < (l.length : Int) := by omega
              have hrk := ruleAt_at hlt
              clear hit hI1
              generalize l[k] = x at *
              have z0 : wr.cell? ⟨b, o + k * 13, none⟩ = some (.int .i64 x.kind) := hc 0 _ rfl
              have z1 : wr.cell? ⟨b, o + k * 13 + 1, none⟩ = some (.int .i64 (x.at_ : Nat)) := hc 1 _ rfl
              have z2 : wr.cell? ⟨b, o + k * 13 + 2, none⟩ = some (.string x.name) := hc 2 _ rfl
              have z3 : wr.cell? ⟨b, o + k * 13 + 3, none⟩ = some (.string x.type) := hc 3 _ rfl
              have z4 : wr.cell? ⟨b, o + k * 13 + 4, none⟩ = some (.int .i64 x.width) := hc 4 _ rfl
              have z5 : wr.cell? ⟨b, o + k * 13 + 5, none⟩ = some (.int .i64 x.order) := hc 5 _ rfl
              have z6 : wr.cell? ⟨b, o + k * 13 + 6, none⟩ = some (.bool x.signed) := hc 6 _ rfl
              have z7 : wr.cell? ⟨b, o + k * 13 + 7, none⟩ = some (.bool x.many) := hc 7 _ rfl
              have z8 : wr.cell? ⟨b, o + k * 13 + 8, none⟩ = some (.pointer p8) := hc 8 _ rfl
              have z9 : wr.cell? ⟨b, o + k * 13 + 9, none⟩ = some (.int .i64 x.rule) := hc 9 _ rfl
              have z10 : wr.cell? ⟨b, o + k * 13 + 10, none⟩ = some (.string x.first) := hc 10 _ rfl
              have z11 : wr.cell? ⟨b, o + k * 13 + 11, none⟩ = some (.string x.last) := hc 11 _ rfl
              have z12 : wr.cell? ⟨b, o + k * 13 + 12, none⟩ = some (.slice a12 x.items.length c12) := hc 12 _ rfl
              clear hc
              go_upto_region 15 with fail
              have HX := (show IB (wr.alloc (.cells #[.int .i64 x.kind, .int .i64 (x.at_ : Nat), .string x.name, .string x.type, .int .i64 x.width, .int .i64 x.order, .bool x.signed, .bool x.many, .pointer p8, .int .i64 x.rule, .string x.first, .string x.last, .slice a12 x.items.length c12] 42)) wr.heap.size (itVals x (.pointer p8) (.slice a12 x.items.length c12)) from heap_alloc_new _ _)
              have hbw := Lib.hid (show Below wr.heap.size wr (wr.alloc (.cells #[.int .i64 x.kind, .int .i64 (x.at_ : Nat), .string x.name, .string x.type, .int .i64 x.width, .int .i64 x.order, .bool x.signed, .bool x.many, .pointer p8, .int .i64 x.rule, .string x.first, .string x.last, .slice a12 x.items.length c12] 42)) from (Below.refl _ _).alloc (Nat.le_refl _) _)
              generalize wr.alloc (.cells #[.int .i64 x.kind, .int .i64 (x.at_ : Nat), .string x.name, .string x.type, .int .i64 x.width, .int .i64 x.order, .bool x.signed, .bool x.many, .pointer p8, .int .i64 x.rule, .string x.first, .string x.last, .slice a12 x.items.length c12] 42) = w1 at *
              have B1 := Lib.hid (hB.out.below hbw.out)
              have y9 : w1.cell? ⟨wr.heap.size, 9, none⟩ = some (.int .i64 x.rule) := HX.cell 9
              have hX1 := HX.lt
              obtain ⟨X, hXe⟩ : ∃ X, wr.heap.size = X := ⟨_, rfl⟩
              rw [hXe] at y9 hX1 ⊢
              obtain ⟨ru, hru⟩ : ∃ y, x.rule = y := ⟨_, rfl⟩
              rw [hru] at y9 hrk
              clear z0 z1 z2 z3 z4 z5 z6 z7 z8 z9 z10 z11 z12 hB hbw HX hru
              clear hXe
              rw [hrk] at hOK hno hdp
              have get := B1.out.mi.get (k : Int) (by omega)
              obtain ⟨bd, hbd⟩ : ∃ y, D (k : Int) = y := ⟨_, rfl⟩
              rw [hbd] at get hOK
              clear hbd hrk hA
              by_cases h3 : ru = 3
              · subst h3
                have hOK2 := Lib.hid (hOK.out rfl)
                clear hOK
                cases bd with
                | true =>
                  have hR := Lib.hid (hnx.out (hOK2.out.trans rfl))
                  clear hOK2 hno hnx hfs
                  go_wp2_with fail
                  go_roundw
                  case rel => first | exact ⟨rfl, rfl, k + 1, by go_num, hlt, B1, hR⟩ | exact ⟨trivial, trivial, k + 1, by go_num, hlt, B1, hR⟩ | (simp only [true_and]; exact ⟨k + 1, by go_num, hlt, B1, hR⟩)
                  case measure => first | (simp [intOf]; done) | (simp [intOf]; omega)
                | false =>
                  have HC := Lib.hid (hI2.out w1 B1.out.bl)
                  clear hno
                  go_wp2_with fail
                  refine (HC.out).mono ?_; rintro e w2 ⟨u, rfl, ho, hb⟩
                  have B2 := Lib.hid (B1.out.below hb)
                  have HCV := Lib.hid (fun j (h : j ∈ cov l k) => cov_lt h)
                  clear hb HC B1 get y9
                  generalize cov l k = cs at *
                  obtain ⟨ca, cc, rfl⟩ := ho.len
                  have hcs : (i64s (cs.map Int.ofNat)).length = cs.length := by simp [i64s]
                  rw [hcs] at ho ⊢
                  have HO := Lib.hid ho
                  clear ho
                  go_wp2_with fail
                  go_loopw [10, 56] (fun ok j wr => wr = w2 ∧ ∃ m : Nat, j = .int .i64 m ∧ m ≤ cs.length ∧ ok = .bool ((cs.take m).all fun j => D (j : Int))) (fun _ j _ => cs.length - (intOf j).toNat)
                  case atStart => exact ⟨rfl, 0, rfl, Nat.zero_le _, rfl⟩
                  case round =>
                    obtain ⟨rfl, m, rfl, hm, rfl⟩ := hrel
                    by_cases hml : m < cs.length
                    · obtain ⟨g, rfl, hc⟩ := HO.out.at_ m (by rw [hcs]; exact hml)
                      have hg2 : (i64s (cs.map Int.ofNat))[m]'(by rw [hcs]; exact hml) = .int .i64 (cs[m] : Nat) := by simp [i64s]
                      rw [hg2] at hc
                      have hat := Lib.hid (all_take (p := fun j : Nat => D (j : Int)) hml)
                      have hcm := HCV.out _ (List.getElem_mem hml)
                      have j1 : (0 : Int) ≤ (m : Int) := by omega
                      have j2 : (m : Int) < (cs.length : Int) := by omega
                      clear hg2
                      generalize cs[m] = q at *
                      have get := B2.out.mi.get (q : Int) (by omega)
                      obtain ⟨bq, hbq⟩ : ∃ y, D (q : Int) = y := ⟨_, rfl⟩
                      obtain ⟨bm, hbm⟩ : ∃ y, (cs.take m).all (fun j : Nat => D (j : Int)) = y := ⟨_, rfl⟩
                      rw [hbq] at get hat
                      rw [hbm] at hat ⊢
                      clear hbq hbm
                      cases bm with
                      | false =>
                        have hR := Lib.hid (show (cs.take (m + 1)).all (fun j : Nat => D (j : Int)) = false from hat.out.trans rfl)
                        clear hat
                        go_wp2_with fail
                        go_roundw
                        case rel => first | exact ⟨rfl, m + 1, by go_num, hml, by rw [hR.out]⟩ | exact ⟨trivial, m + 1, by go_num, hml, by rw [hR.out]⟩
                        case measure => first | (simp [intOf]; done) | (simp [intOf]; omega)
                      | true =>
                        have hR := Lib.hid (hat.out.trans (Bool.true_and bq))
                        clear hat
                        go_wp2_with fail
                        go_roundw
                        case rel => first | exact ⟨rfl, m + 1, by go_num, hml, by rw [hR.out]⟩ | exact ⟨trivial, m + 1, by go_num, hml, by rw [hR.out]⟩
                        case measure => first | (simp [intOf]; done) | (simp [intOf]; omega)
                    · have j2 : ¬ (m : Int) < (cs.length : Int) := by omega
                      have hme := Lib.hid (show (cs.take m).all (fun j : Nat => D (j : Int)) = cs.all (fun j : Nat => D (j : Int)) by rw [List.take_of_length_le (by omega)])
                      rw [hme.out]
                      obtain ⟨bm, hbm⟩ : ∃ y, cs.all (fun j : Nat => D (j : Int)) = y := ⟨_, rfl⟩
                      rw [hbm] at hOK2 ⊢
                      clear hme hbm
                      cases bm with
                      | false =>
                        have hR := Lib.hid (hnx.out (hOK2.out.trans rfl))
                        clear hOK2 hnx hfs
                        go_wp2_with fail
                        go_roundw
                        case rel => first | exact ⟨rfl, rfl, k + 1, by go_num, hlt, B2, hR⟩ | exact ⟨trivial, trivial, k + 1, by go_num, hlt, B2, hR⟩ | (simp only [true_and]; exact ⟨k + 1, by go_num, hlt, B2, hR⟩)
                        case measure => first | (simp [intOf]; done) | (simp [intOf]; omega)
                      | true =>
                        have hn1 := Lib.hid (hfs.out (hOK2.out.trans rfl))
                        have hS := Lib.hid ((ord_some hn1.out).symm.trans hO.out)
                        have hlp := lft_put hlt (okAt_out (hOK2.out.trans rfl))
                        have HDP := Lib.hid (hdp.out (by first | rfl | trivial))
                        clear hOK2 hnx hfs hdp
                        go_wp2_with (at_builtin; refine own_append1 rfl _ _ 38 rfl (W.heap.size + 1) 3 (.int .i64 0) 8 Try.underlying38 (by kernel_rfl) rfl (.slice oa on oc) _ rfl (B2.out.ow.alloc _) _ 1 _ rfl (new_cell _ _ _) rfl (by rw [i64s_len]; omega) (by rw [i64s_len]; omega) (le_alloc B2.out.size _) ?_; intro v1 w3 ho1 hg1 hb1 hat1; rw [i64s_snoc] at ho1; have hAB := ((Below.refl (W.heap.size + 1) wr).alloc B2.out.size (.cells #[.int .i64 (k : Nat)] 3)).trans hb1; have HPT := Lib.hid (B2.out.app hAB ho1); obtain ⟨a6, c6, e6⟩ := ho1.len; subst e6; obtain ⟨w7, e7, hM7, hg7⟩ := HPT.out.mi.put (by omega) (k : Int) (by omega); have HP7 := Lib.hid (HPT.out.put hg7 hM7); clear hM7 hg7; clear hg1 hb1 hat1 ho1 hAB)
                        go_roundg (2 * lft l.length (out ++ [(k : Int)]) + 1)
                        case measure => omega
                        case rel => exact ⟨_, n + 1, _, true, rfl, ⟨_, _, _, rfl⟩, HP7, HDP, hS, by rw [List.length_append, List.length_singleton]; omega, by omega, rfl, Lib.hid (fun h => by cases h)⟩
              · have e3 : (ru == 3) = false := by simpa using h3
                have hR := Lib.hid (hnx.out (hno.out h3))
                clear hOK hno hnx hfs h3 get
                go_wp2_with fail
                go_roundw
                case rel => first | exact ⟨rfl, rfl, k + 1, by go_num, hlt, B1, hR⟩ | exact ⟨trivial, trivial, k + 1, by go_num, hlt, B1, hR⟩ | (simp only [true_and]; exact ⟨k + 1, by go_num, hlt, B1, hR⟩)
                case measure => first | (simp [intOf]; done) | (simp [intOf]; omega)
            · have i2 : ¬ (k : Int) < (l.length : Int) := by omega
              obtain rfl : k = l.length := by omega
              have hR := Lib.hid (nextF_none (l := l) (out := out) (List.range l.length) (fun j hj => hA.out j (List.mem_range.1 hj)))
              clear hA
              go_wp2_with fail
              go_roundg (2 * lft l.length out)
              case measure => omega
              case rel => exact ⟨out, n, D, false, rfl, ⟨_, _, _, rfl⟩, hB, hD, hO, hlen, hnn, rfl, Lib.hid (fun _ => hR.out)⟩
end
end Go.Proofs.Ytpnjlmpamincoaa.Tm
