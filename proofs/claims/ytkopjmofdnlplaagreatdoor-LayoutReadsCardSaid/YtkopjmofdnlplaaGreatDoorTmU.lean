/-
  PROVED HERE: the contract of the document's within, which, covers; the contract of the document's covers; a queue: a slice of the call's own that was cut from the left, append to it; the contract of the document's maps tq bool, comes. Conditions: as each theorem states.
-/
import Derived.Test.YtkopjmofdnlplaaGreatDoorTmQ
import Derived.Deep.AppendSrc
import Derived.Deep.Upon
import Derived.Deep.MidRow
import Derived.Maps.AppendAt
import Derived.Maps.OwnSet
import Derived.Maps.Views
import Derived.StringKeys
import Derived.Deep.LoopGhost
namespace Go.Proofs.YtkopjmofdnlplaaGreatDoor.Tm
open Go.RowKit Go.Proofs.YtkopjmofdnlplaaGreatDoor.Lex Go.Proofs.YtkopjmofdnlplaaGreatDoor.Dig
theorem within_any (a b c : Int) (W : World) : Calls Tryz.prog 101 #[.int .i64 a, .int .i64 b, .int .i64 c] W fun e w' => e = .returned (.bool (decide (b ≤ a) && decide (a ≤ c))) ∧ W = w' := by
  go_enter Tryz.func101, Tryz.ntmps101
  by_cases h1 : b ≤ a
  · by_cases h2 : a ≤ c
    · go_wp2_with fail
      go_ret
      exact ⟨by simp [h1, h2], rfl⟩
    · have h3 : c < a := by omega
      go_wp2_with fail
      go_ret
      exact ⟨by simp [h3], rfl⟩
  · have h3 : a < b := by omega
    go_wp2_with fail
    go_ret
    exact ⟨by simp; omega, rfl⟩
/-- Which item is called so: the first that is no When. -/
def whichF : List It → ByteArray → Nat → Option Nat
  | [], _, _ => none
  | x :: r, s, j => if x.kind ≠ 4 ∧ x.name = s then some j else whichF r s (j + 1)
def whichI (l : List It) (s : ByteArray) : Int := match whichF l s 0 with | some k => (k : Int) | none => -1
theorem whichF_step {l : List It} {s : ByteArray} {k : Nat} (h : k < l.length) : whichF (l.drop k) s k = if l[k].kind ≠ 4 ∧ l[k].name = s then some k else whichF (l.drop (k + 1)) s (k + 1) := by
  rw [List.drop_eq_getElem_cons h, whichF]
theorem whichF_lt {s : ByteArray} : ∀ (l : List It) (j k : Nat), whichF l s j = some k → j ≤ k ∧ k < j + l.length := by
  intro l
  induction l with
  | nil => intro j k h; cases h
  | cons x r ih =>
    intro j k h
    rw [whichF] at h
    by_cases h1 : x.kind ≠ 4 ∧ x.name = s
    · rw [if_pos h1] at h; injection h with h; simp; omega
    · rw [if_neg h1] at h
      have := ih (j + 1) k h
      simp only [List.length_cons]; omega
theorem whichI_lt (l : List It) (s : ByteArray) : -1 ≤ whichI l s ∧ whichI l s < l.length := by
  unfold whichI
  cases h : whichF l s 0 with
  | none => simp only; omega
  | some k => have := whichF_lt l 0 k h; simp only; omega
def WhR (W : World) (l : List It) (s : ByteArray) (i : Value) (wr : World) : Prop := ∃ k : Nat, i = .int .i64 k ∧ k ≤ l.length ∧ Hid (whichF l s 0 = whichF (l.drop k) s k) ∧ Hid (Below W.heap.size W wr)
theorem ex_ptr {w : World} {x : Ex} {v : Value} (h : ExAt w x v) : ∃ p, v = .pointer p := by
  cases x with
  | num k n => unfold ExAt at h; obtain ⟨g, e, _⟩ := h; exact ⟨_, e⟩
  | nam k s => unfold ExAt at h; obtain ⟨g, e, _⟩ := h; exact ⟨_, e⟩
  | bin k op l r => unfold ExAt at h; obtain ⟨g, a, b, e, _⟩ := h; exact ⟨_, e⟩
theorem it_forms {w : World} {x : It} {cv iv : Value} (h : ItAt w x cv iv) : (∃ p, cv = .pointer p) ∧ ∃ a c, iv = .slice a x.items.length c := by
  obtain ⟨h1, a, c, e, _⟩ := (itAt_iff _ _ _ _).1 h
  refine ⟨?_, a, c, e⟩
  cases hx : x.count with
  | none => rw [hx] at h1; exact ⟨none, h1⟩
  | some e => rw [hx] at h1; exact ex_ptr h1
theorem add_none (b o n : Nat) : (⟨b, o, none⟩ : Addr).add n = ⟨b, o + n, none⟩ := by
  unfold Addr.add
  split
  · rename_i h; subst h; rfl
  · rfl
/-- An item of a list in memory: its cells. -/
theorem its_at {w : World} {a : Option Addr} {l : List It} {cap : Nat} (h : ItsAt w (.slice a l.length cap) l) (k : Nat) (hk : k < l.length) : ∃ b o cv iv, a = some ⟨b, o, none⟩ ∧ (∀ m v, (itVals l[k] cv iv)[m]? = some v → w.cell? ⟨b, o + k * 13 + m, none⟩ = some v) ∧ ItAt w l[k] cv iv := by
  obtain ⟨a', cap', e, _, hr⟩ := h
  injection e with e1 _ e2
  subst e1
  obtain ⟨⟨b, o, sp⟩, cv0, iv0, ha, h0, _⟩ := rowAt_get l 0 hr 0 (by omega)
  have h00 := h0 0 _ rfl
  have hsp : sp = none := by
    rw [show ((0 + 0) * 13 + 0) = 0 from rfl, show (⟨b, o, sp⟩ : Addr).add 0 = ⟨b, o, sp⟩ by simp [Addr.add]] at h00
    unfold World.cell? at h00
    cases sp with
    | none => rfl
    | some x => simp at h00; split at h00 <;> simp at h00
  subst hsp
  obtain ⟨ad, cv, iv, hb, hc, hi⟩ := rowAt_get l 0 hr k hk
  rw [ha] at hb
  injection hb with hb
  subst hb
  refine ⟨b, o, cv, iv, ha, fun m v hm => ?_, hi⟩
  have := hc m v hm
  rw [add_none, Nat.zero_add] at this
  rw [Nat.add_assoc]
  exact this
section
variable {W : World}
set_option maxRecDepth 100000 in
set_option maxHeartbeats 2000000 in
theorem which_any (v : Value) (l : List It) (hl : l.length ≤ 16) (s : ByteArray) (h : ItsAt W v l) : Calls Tryz.prog 93 #[v, .string s] W fun e w' => e = .returned (.int .i64 (whichI l s)) ∧ Below W.heap.size W w' := by
  obtain ⟨a, cap, rfl, hcap, hr⟩ := id h
  have HI := Lib.hid h
  clear h hr
  go_enter Tryz.func93, Tryz.ntmps93
  go_wp2_with fail
  go_loopw [9] (fun i wr => WhR W l s i wr) (fun i _ => l.length - (intOf i).toNat)
  case atStart => exact ⟨0, rfl, Nat.zero_le _, Lib.hid rfl, Lib.hid (Below.refl _ _)⟩
  case round =>
    obtain ⟨k, rfl, hk, hw, hb⟩ := hrel
    by_cases hlt : k < l.length
    · obtain ⟨b, o, cv, iv, rfl, hc, hit⟩ := its_at HI.out k hlt
      obtain ⟨⟨p8, rfl⟩, a12, c12, rfl⟩ := it_forms hit
      have i1 : (0 : Int) ≤ (k : Int) := by omega
      have i2 : (k : Int) < (l.length : Int) := by omega
      have hst := Lib.hid (hw.out.trans (whichF_step hlt))
      have z0 : wr.cell? ⟨b, o + k * 13, none⟩ = some (.int .i64 l[k].kind) := keepCell hb.out (hc 0 _ rfl)
      have z1 : wr.cell? ⟨b, o + k * 13 + 1, none⟩ = some (.int .i64 (l[k].at_ : Nat)) := keepCell hb.out (hc 1 _ rfl)
      have z2 : wr.cell? ⟨b, o + k * 13 + 2, none⟩ = some (.string l[k].name) := keepCell hb.out (hc 2 _ rfl)
      have z3 : wr.cell? ⟨b, o + k * 13 + 3, none⟩ = some (.string l[k].type) := keepCell hb.out (hc 3 _ rfl)
      have z4 : wr.cell? ⟨b, o + k * 13 + 4, none⟩ = some (.int .i64 l[k].width) := keepCell hb.out (hc 4 _ rfl)
      have z5 : wr.cell? ⟨b, o + k * 13 + 5, none⟩ = some (.int .i64 l[k].order) := keepCell hb.out (hc 5 _ rfl)
      have z6 : wr.cell? ⟨b, o + k * 13 + 6, none⟩ = some (.bool l[k].signed) := keepCell hb.out (hc 6 _ rfl)
      have z7 : wr.cell? ⟨b, o + k * 13 + 7, none⟩ = some (.bool l[k].many) := keepCell hb.out (hc 7 _ rfl)
      have z8 : wr.cell? ⟨b, o + k * 13 + 8, none⟩ = some (.pointer p8) := keepCell hb.out (hc 8 _ rfl)
      have z9 : wr.cell? ⟨b, o + k * 13 + 9, none⟩ = some (.int .i64 l[k].rule) := keepCell hb.out (hc 9 _ rfl)
      have z10 : wr.cell? ⟨b, o + k * 13 + 10, none⟩ = some (.string l[k].first) := keepCell hb.out (hc 10 _ rfl)
      have z11 : wr.cell? ⟨b, o + k * 13 + 11, none⟩ = some (.string l[k].last) := keepCell hb.out (hc 11 _ rfl)
      have z12 : wr.cell? ⟨b, o + k * 13 + 12, none⟩ = some (.slice a12 l[k].items.length c12) := keepCell hb.out (hc 12 _ rfl)
      have Z := Lib.hid hc
      clear hc
      obtain ⟨q0, hq0⟩ : ∃ x, l[k].kind = x := ⟨_, rfl⟩
      obtain ⟨q2, hq2⟩ : ∃ x, l[k].name = x := ⟨_, rfl⟩
      rw [hq0] at z0 hst
      rw [hq2] at z2 hst
      by_cases h4 : q0 = 4
      · subst h4
        go_wp2_with fail
        go_roundw
        case rel => exact ⟨k + 1, by go_num, hlt, Lib.hid (hst.out.trans (if_neg (fun h => h.1 rfl))), Lib.hid (hb.out.alloc hb.out.size _)⟩
        case measure => first | (simp [intOf]; done) | (simp [intOf]; omega)
      · have h4' : (q0 == 4) = false := by simpa using h4
        have h4'' : (q0 != 4) = true := by simpa using h4
        by_cases h5 : q2 = s
        · have e2 : (q2.toList == s.toList) = true := by rw [h5]; exact beq_self_eq_true _
          have hR := Lib.hid (hst.out.trans (if_pos ⟨h4, h5⟩))
          clear hst h5
          go_wp2_with fail
          go_ret
          refine ⟨?_, hb.out.alloc hb.out.size _⟩
          unfold whichI
          rw [hR.out]
          rfl
        · have e2 : (q2.toList == s.toList) = false := (Go.Lib.bytes_beq_false_iff _ _).2 h5
          have hR := Lib.hid (hst.out.trans (if_neg (fun h => h5 h.2)))
          clear hst h5
          go_wp2_with fail
          go_roundw
          case rel => exact ⟨k + 1, by go_num, hlt, Lib.hid (hR.out), Lib.hid (hb.out.alloc hb.out.size _)⟩
          case measure => first | (simp [intOf]; done) | (simp [intOf]; omega)
    · have i2 : ¬ (k : Int) < (l.length : Int) := by omega
      go_wp2_with fail
      go_ret
      refine ⟨?_, hb.out⟩
      have e := hw.out
      rw [show l.drop k = [] from List.drop_eq_nil_iff.2 (by omega)] at e
      unfold whichI
      rw [e]
      rfl
end
end Go.Proofs.YtkopjmofdnlplaaGreatDoor.Tm
namespace Go.Proofs.YtkopjmofdnlplaaGreatDoor.Tm
open Go.RowKit Go.Proofs.YtkopjmofdnlplaaGreatDoor.Lex Go.Proofs.YtkopjmofdnlplaaGreatDoor.Dig
theorem exAt_below {w w' : World} (hb : Below w.heap.size w w') : ∀ (x : Ex) (v : Value), ExAt w x v → ExAt w' x v := by
  have key : ∀ g o, w.heap[g]? = some o → w'.heap[g]? = some o := fun g o h => (hb.block g (Array.getElem?_eq_some_iff.1 h).1).trans h
  intro x
  induction x with
  | num k n => intro v h; unfold ExAt at h ⊢; obtain ⟨g, e, h⟩ := h; exact ⟨g, e, key _ _ h⟩
  | nam k n => intro v h; unfold ExAt at h ⊢; obtain ⟨g, e, h⟩ := h; exact ⟨g, e, key _ _ h⟩
  | bin k op l r ihl ihr => intro v h; unfold ExAt at h ⊢; obtain ⟨g, a, b, e, h, h1, h2⟩ := h; exact ⟨g, a, b, e, key _ _ h, ihl a h1, ihr b h2⟩
theorem ctAt_below {w w' : World} (hb : Below w.heap.size w w') : ∀ (x : Option Ex) (v : Value), CtAt w x v → CtAt w' x v
  | none, _, h => h
  | some x, v, h => exAt_below hb x v h
mutual
theorem itAt_below {w w' : World} (hb : Below w.heap.size w w') : (x : It) → (cv iv : Value) → ItAt w x cv iv → ItAt w' x cv iv
  | .mk _ _ _ _ _ _ _ _ ct _ _ _ items, cv, iv, h => by
    unfold ItAt at h ⊢
    obtain ⟨h1, a, cap, e, hl, hr⟩ := h
    exact ⟨ctAt_below hb _ _ h1, a, cap, e, hl, rowAt_below hb items a 0 hr⟩
theorem rowAt_below {w w' : World} (hb : Below w.heap.size w w') : (l : List It) → (a : Option Addr) → (j : Nat) → RowAt w l a j → RowAt w' l a j
  | [], _, _, _ => by unfold RowAt; trivial
  | x :: r, a, j, h => by
    unfold RowAt at h ⊢
    obtain ⟨⟨ad, cv, iv, e, hc, hi⟩, hr⟩ := h
    exact ⟨⟨ad, cv, iv, e, fun m v hm => keepCell hb (hc m v hm), itAt_below hb x cv iv hi⟩, rowAt_below hb r a (j + 1) hr⟩
end
theorem ItsAt.below {w w' : World} {v : Value} {l : List It} (h : ItsAt w v l) (hb : Below w.heap.size w w') : ItsAt w' v l := by
  obtain ⟨a, cap, e, hl, hr⟩ := h
  exact ⟨a, cap, e, hl, rowAt_below hb l a 0 hr⟩
/-- The Checks over which a Check's sum is taken. -/
def coverP (l : List It) (x : It) (k : Nat) : Bool := decide (0 ≤ whichI l x.first ∧ whichI l x.first ≤ k ∧ (k : Int) ≤ whichI l x.last) && (match l[k]? with | some y => y.rule == 3 | none => false)
def coversF (l : List It) (x : It) : List Nat := (List.range l.length).filter (coverP l x)
def coverN (l : List It) (x : It) (z : Int) : List Int := ((List.range z.toNat).filter (coverP l x)).map Int.ofNat
theorem coverN_step (l : List It) (x : It) (k : Nat) : coverN l x ((k : Int) + 1) = if coverP l x k = true then coverN l x k ++ [(k : Int)] else coverN l x k := by
  unfold coverN
  rw [show ((k : Int) + 1).toNat = k + 1 by omega, show ((k : Int)).toNat = k by omega, List.range_succ, List.filter_append, List.map_append]
  by_cases h : coverP l x k = true
  · rw [if_pos h]; simp [h]
  · rw [if_neg h]; simp [h]
theorem filter_cut {p : Nat → Bool} {m n : Nat} (hm : m ≤ n) (h : ∀ k, m ≤ k → k < n → p k = false) : (List.range n).filter p = (List.range m).filter p := by
  obtain ⟨d, rfl⟩ := Nat.exists_eq_add_of_le hm
  rw [List.range_add, List.filter_append]
  rw [show ((List.range d).map (m + ·)).filter p = [] from List.filter_eq_nil_iff.2 (fun k hk => by
    obtain ⟨j, hj, rfl⟩ := List.mem_map.1 hk
    rw [List.mem_range] at hj
    rw [h (m + j) (by omega) (by omega)]
    decide)]
  simp
theorem coverN_end {l : List It} {x : It} {z : Int} (h2 : z ≤ l.length) (h3 : whichI l x.first ≤ z) (h4 : z < 0 ∨ whichI l x.last < z) : coverN l x z = (coversF l x).map Int.ofNat := by
  unfold coverN coversF
  rw [filter_cut (m := z.toNat) (n := l.length) (by omega) (fun k h5 h6 => by
    unfold coverP
    rw [decide_eq_false (by omega)]
    rfl)]
theorem coverN_len (l : List It) (x : It) (z : Int) (h : z ≤ 16) : (coverN l x z).length ≤ 16 := by
  unfold coverN
  rw [List.length_map]
  refine Nat.le_trans (List.length_filter_le _ _) ?_
  rw [List.length_range]
  omega
def CvR (W : World) (l : List It) (x : It) (v z : Value) (wr : World) : Prop := ∃ z' : Int, z = .int .i64 z' ∧ whichI l x.first ≤ z' ∧ z' ≤ l.length ∧ (z' = whichI l x.first ∨ (0 ≤ whichI l x.first ∧ z' ≤ whichI l x.last + 1)) ∧ (∃ a n c, v = .slice a n c) ∧ Hid (Own wr W.heap.size 3 v (i64s (coverN l x z'))) ∧ Hid (Below W.heap.size W wr)
section
variable {W : World}
set_option maxRecDepth 100000 in
set_option maxHeartbeats 2000000 in
theorem covers_any (v : Value) (l : List It) (hl : l.length ≤ 16) (h : ItsAt W v l) (i : Nat) (hi : i < l.length) : Calls Tryz.prog 128 #[v, .int .i64 (i : Nat)] W fun e w' => ∃ u, e = .returned u ∧ Own w' W.heap.size 3 u (i64s ((coversF l l[i]).map Int.ofNat)) ∧ Below W.heap.size W w' := by
  obtain ⟨a, cap, rfl, hcap, hr⟩ := id h
  have HI := Lib.hid h
  obtain ⟨b, o, cv, iv, rfl, hc, _⟩ := its_at h i hi
  have y10 : W.cell? ⟨b, o + i * 13 + 10, none⟩ = some (.string l[i].first) := hc 10 _ rfl
  have y11 : W.cell? ⟨b, o + i * 13 + 11, none⟩ = some (.string l[i].last) := hc 11 _ rfl
  have i1 : (0 : Int) ≤ (i : Int) := by omega
  have i2 : (i : Int) < (l.length : Int) := by omega
  have HC := Lib.hid (fun k hk => its_at h k hk)
  clear h hr hc
  generalize l[i] = x at *
  obtain ⟨f, hf⟩ : ∃ f, whichI l x.first = f := ⟨_, rfl⟩
  obtain ⟨la, hla⟩ : ∃ f, whichI l x.last = f := ⟨_, rfl⟩
  have f1 := whichI_lt l x.first
  have f2 := whichI_lt l x.last
  rw [hf] at f1
  rw [hla] at f2
  go_enter Tryz.func128, Tryz.ntmps128
  go_wp2_with fail
  refine (which_any _ l hl x.first HI.out).mono ?_; rintro e w1 ⟨rfl, hb⟩
  have B1 := Lib.hid hb
  clear hb
  rw [hf]
  go_wp2_with fail
  go_loopw [5, 6] (fun v z wr => CvR W l x v z wr) (fun _ z _ => l.length + 1 - (intOf z + 1).toNat)
  case atStart =>
    refine ⟨f, rfl, by omega, by omega, .inl hf.symm, ⟨_, _, _, rfl⟩, Lib.hid ?_, B1⟩
    have e : coverN l x f = [] := by
      unfold coverN
      rw [filter_cut (m := 0) (Nat.zero_le _) (fun k _ hk => by unfold coverP; rw [decide_eq_false (by omega)]; rfl)]
      rfl
    rw [e]
    exact own_nil _ _ _
  case round =>
    clear B1
    obtain ⟨z, rfl, z1, z2, z3, ⟨a5, n5, c5, rfl⟩, ho, hb⟩ := hrel
    rw [hf] at z1 z3
    rw [hla] at z3
    by_cases h0 : 0 ≤ z
    · obtain ⟨k, rfl⟩ : ∃ k : Nat, z = k := ⟨z.toNat, by omega⟩
      have x11 := keepCell hb.out y11
      have I2 := Lib.hid (ItsAt.below HI.out hb.out)
      have C2 := Lib.hid (which_any (W := wr) _ l hl x.last I2.out)
      go_wp2_with fail
      refine (C2.out).mono ?_; rintro e w2 ⟨rfl, hb2⟩
      rw [hla]
      have B2 := Lib.hid (hb.out.trans (hb2.mono hb.out.size))
      have O2 := Lib.hid (ho.out.below hb2)
      clear hb2 C2 hb ho x11
      by_cases h1 : (k : Int) ≤ la
      · have hk : k < l.length := by omega
        obtain ⟨b', o', cv', iv', e', hc', _⟩ := HC.out k hk
        injection e' with e'
        injection e' with e1 e2
        subst e1 e2
        have j1 : (0 : Int) ≤ (k : Int) := by omega
        have j2 : (k : Int) < (l.length : Int) := by omega
        have x9 : w2.cell? ⟨b, o + k * 13 + 9, none⟩ = some (.int .i64 l[k].rule) := keepCell B2.out (hc' 9 _ rfl)
        clear hc'
        have hst := Lib.hid (coverN_step l x k)
        have hP : coverP l x k = (l[k].rule == 3) := by
          unfold coverP
          rw [hf, hla, decide_eq_true (by omega), List.getElem?_eq_getElem hk]
          rfl
        obtain ⟨ru, hru⟩ : ∃ r, l[k].rule = r := ⟨_, rfl⟩
        rw [hru] at x9 hP
        have hlen := coverN_len l x k (by omega)
        by_cases h3 : ru = 3
        · subst h3
          have hM := Lib.hid (hst.out.trans (if_pos hP))
          go_wp2_with (at_builtin; refine own_append1 rfl _ _ 57 rfl W.heap.size 3 (.int .i64 0) 8 Tryz.underlying57 (by kernel_rfl) rfl (.slice a5 n5 c5) _ rfl (O2.out.alloc _) _ 1 _ rfl (new_cell _ _ _) rfl (by rw [i64s_len]; omega) (by rw [i64s_len]; omega) (le_alloc B2.out.size _) ?_; intro v1 w3 ho1 hg1 hb1 hat1; have hb3 := below_append B2.out _ B2.out.size hb1; rw [i64s_snoc, ← hM.out] at ho1; have hB1 := Lib.hid hb3; have ho1H := Lib.hid ho1; clear hg1 hb1 hat1 hb3 ho1)
          obtain ⟨a6, c6, e6⟩ := ho1H.out.len
          subst e6
          refine ⟨⟨(k : Int) + 1, rfl, by omega, by omega, .inr ⟨by omega, by omega⟩, ⟨_, _, _, rfl⟩, ho1H, hB1⟩, by simp only [intOf]; omega⟩
        · have h3' : (ru == 3) = false := by simpa using h3
          have hM := Lib.hid (hst.out.trans (if_neg (by rw [hP, h3']; decide)))
          go_wp2_with fail
          refine ⟨⟨(k : Int) + 1, rfl, by omega, by omega, .inr ⟨by omega, by omega⟩, ⟨_, _, _, rfl⟩, Lib.hid (by rw [hM.out]; exact O2.out), B2⟩, by simp only [intOf]; omega⟩
      · have h1' : la < (k : Int) := by omega
        go_wp2_with fail
        go_ret
        refine ⟨_, rfl, ?_, B2.out⟩
        rw [← coverN_end (z := (k : Int)) (by omega) (by omega) (.inr (by omega))]
        exact O2.out
    · have h0' : z < 0 := by omega
      go_wp2_with fail
      go_ret
      refine ⟨_, rfl, ?_, hb.out⟩
      rw [← coverN_end (z := z) (by omega) (by omega) (.inl h0')]
      exact ho.out
end
end Go.Proofs.YtkopjmofdnlplaaGreatDoor.Tm
namespace Go.Proofs.YtkopjmofdnlplaaGreatDoor.Tm
open Go.RowKit Go.Proofs.YtkopjmofdnlplaaGreatDoor.Lex Go.Proofs.YtkopjmofdnlplaaGreatDoor.Dig
/-- The slice v, in a block from B on, shows xs; there is room up to its capacity. -/
def Qu (w : World) (B : Nat) (v : Value) (xs : List Value) : Prop :=
  (v = .slice none 0 0 ∧ xs = []) ∨ ∃ g o cap, v = .slice (some ⟨g, o, none⟩) xs.length cap ∧ B ≤ g ∧ g < w.heap.size ∧ xs.length ≤ cap ∧ (∀ j, j < cap → (w.cell? ⟨g, o + j, none⟩).isSome = true ∧ w.frozen? ⟨g, o + j, none⟩ = false) ∧ (∀ j u, xs[j]? = some u → w.cell? ⟨g, o + j, none⟩ = some u)
theorem Qu.len {w : World} {B : Nat} {v : Value} {xs : List Value} (h : Qu w B v xs) : ∃ a cap, v = .slice a xs.length cap := by
  rcases h with ⟨rfl, rfl⟩ | ⟨g, o, cap, rfl, _⟩
  · exact ⟨_, _, rfl⟩
  · exact ⟨_, _, rfl⟩
theorem own_qu {w : World} {B E : Nat} {v : Value} {xs : List Value} (h : Own w B E v xs) : Qu w B v xs := by
  rcases h.2 with ⟨rfl, h0⟩ | ⟨g, cap, cur, rfl, hb, hg, hnc, hcm, hcs, htake⟩
  · exact .inl ⟨rfl, List.eq_nil_of_length_eq_zero h0⟩
  · refine .inr ⟨g, 0, cap, rfl, hb, (Array.getElem?_eq_some_iff.1 hg).1, hnc, fun j hj => ⟨?_, ?_⟩, fun j u hu => ?_⟩
    · unfold World.cell?
      rw [hg]
      simp
      omega
    · unfold World.frozen?
      rw [hg]
      simp
    · have := World.ownsRow.cells h (g := g) rfl j u hu
      rwa [Addr.add_mid] at this
theorem Qu.below {w w' : World} {B : Nat} {v : Value} {xs : List Value} (h : Qu w B v xs) (hb : Below w.heap.size w w') : Qu w' B v xs := by
  rcases h with h | ⟨g, o, cap, rfl, h1, h2, h3, h4, h5⟩
  · exact .inl h
  · have e := hb.block g h2
    refine .inr ⟨g, o, cap, rfl, h1, Nat.lt_of_lt_of_le h2 hb.size, h3, fun j hj => ⟨?_, ?_⟩, fun j u hu => ?_⟩
    · rw [World.cell?_of_block (a := ⟨g, o + j, none⟩) e]; exact (h4 j hj).1
    · rw [World.frozen?_of_block (a := ⟨g, o + j, none⟩) e]; exact (h4 j hj).2
    · rw [World.cell?_of_block (a := ⟨g, o + j, none⟩) e]; exact h5 j u hu
theorem Qu.grown {w w' : World} {B G : Nat} {v : Value} {xs : List Value} (h : Qu w B v xs) (hg : w.grownBy w' (some G)) (hG : G < B) : Qu w' B v xs := by
  rcases h with h | ⟨g, o, cap, rfl, h1, h2, h3, h4, h5⟩
  · exact .inl h
  · have e := hg.block g h2 (fun e => by simp only [Option.some.injEq] at e; omega)
    refine .inr ⟨g, o, cap, rfl, h1, Nat.lt_of_lt_of_le h2 hg.size, h3, fun j hj => ⟨?_, ?_⟩, fun j u hu => ?_⟩
    · rw [World.cell?_of_block (a := ⟨g, o + j, none⟩) e]; exact (h4 j hj).1
    · rw [World.frozen?_of_block (a := ⟨g, o + j, none⟩) e]; exact (h4 j hj).2
    · rw [World.cell?_of_block (a := ⟨g, o + j, none⟩) e]; exact h5 j u hu
theorem below_setCells (b o : Nat) (vs : List Value) (w : World) {B : Nat} (hB : B ≤ b) (hb : b < w.heap.size) : Below B w (w.setCells b o vs) := by
  induction vs generalizing o w with
  | nil => exact Below.refl _ _
  | cons v r ih =>
    rw [World.setCells]
    have h1 : Below B w (w.setCell ⟨b, o, none⟩ v) := below_set (Below.refl _ _) hB
    exact h1.trans (ih (o + 1) _ (by simpa [World.setCell] using hb))
theorem size_setCells (b o : Nat) (vs : List Value) (w : World) : (w.setCells b o vs).heap.size = w.heap.size := by
  induction vs generalizing o w with
  | nil => rfl
  | cons v r ih => rw [World.setCells, ih]; simp [World.setCell]
theorem gb_setCells (b o : Nat) (vs : List Value) (w : World) (hb : b < w.heap.size) : w.grownBy (w.setCells b o vs) (some b) :=
  have h := below_setCells b o vs w (B := 0) (Nat.zero_le _) hb
  ⟨h.os, h.tape, h.output, h.size, fun k hk hr => World.heap_setCells_other w b o vs hk (fun e => hr (by rw [e]))⟩
section
variable {P : Program} {w : World}
theorem qu_append {B T E : Nat} {v x : Value} {xs news : List Value} {n ty : Nat} {i : TypeInfo} {z : Value} (hv : Qu w B v xs) (ht : P.underlying T = some (.slice E)) (hi : P.info? E = some i) (hz : i.zero = some z) (h1 : i.size = 1) (hzs : z.cells.size = 1)
    (hs : Src P 1 T x n news w) (hlen : (xs.length + n) * i.bytes ≤ 140737488355328) (h63 : xs.length + n ≤ maxLen) (hB : B ≤ w.heap.size) :
    ∃ v' w', (Builtin.append_ #[T, T] ty #[v, x]).run P w = .ok v' w' ∧ Qu w' B v' (xs ++ news) ∧ Below B w w' ∧ w.grownBy w' v.ownBlock := by
  have hn : news.length = n := by simpa using hs.newsLen
  have hs1 : Src P i.size T x n news w := by rw [h1]; exact hs
  have grown : ∀ old : Nat, old < xs.length + n → Qu (w.drew.alloc (.cells ((xs ++ news).toArray ++ Builtin.zeroCells z.cells (grownCap w (xs.length + n) old E - (xs.length + n))) E)) B (.slice (some ⟨w.heap.size, 0, none⟩) (xs.length + n) (grownCap w (xs.length + n) old E)) (xs ++ news) := by
    intro old ho
    have hge := grownCap_ge w (xs.length + n) old E
    have hcm : grownCap w (xs.length + n) old E ≤ maxLen := grownCap_le_maxLen w (xs.length + n) old E h63
    have hl : (xs ++ news).length = xs.length + n := by rw [List.length_append, hn]
    have ho : Own (w.drew.alloc (.cells ((xs ++ news).toArray ++ Builtin.zeroCells z.cells (grownCap w (xs.length + n) old E - (xs.length + n))) E)) B E (.slice (some ⟨w.heap.size, 0, none⟩) (xs.length + n) (grownCap w (xs.length + n) old E)) (xs ++ news) := by
      unfold Own
      rw [hl]
      refine ⟨by omega, .inr ⟨w.heap.size, _, _, rfl, hB, heap_alloc_new w.drew _, hge, hcm, ?_, ?_⟩⟩
      · simp only [Array.size_append, List.size_toArray, size_zeroCells, hzs, hl]
        omega
      · simp only [Array.toList_append]
        rw [show (xs.length + n) * 1 = (xs ++ news).length by omega]
        exact List.take_left
    exact own_qu ho
  have hbl : ∀ o : Obj, Below B w (w.drew.alloc o) := fun o => ((Below.refl B w).drew).alloc hB o
  have hgr : ∀ (o : Obj) (row : Option Nat), w.grownBy (w.drew.alloc o) row := fun o row => ⟨rfl, rfl, rfl, by simp, fun k hk _ => heap_alloc_old w.drew _ hk⟩
  rcases hv with ⟨rfl, rfl⟩ | ⟨g, o, cap, rfl, hg, hgl, hc, hroom, hcell⟩
  · by_cases h0 : n = 0
    · subst h0
      obtain rfl : news = [] := List.eq_nil_of_length_eq_zero hn
      refine ⟨.slice none 0 0, w, ?_, .inl ⟨rfl, rfl⟩, Below.refl _ _, ⟨rfl, rfl, rfl, Nat.le_refl _, fun _ _ _ => rfl⟩⟩
      have hsc := hs1.cells
      rcases hs.kind with ⟨e', hk⟩ | hk <;> simp [Builtin.append_, run_underlying ht, sizeOf, typeInfo, hi, hs.len, hsc]
    · have hr := run_append_grow_src (P := P) w T T ty E i z ht hi hz none 0 0 [] (run_firstCells_none w.drew i.size 0 0 0) x n news hs1 (by omega) (by unfold maxLen at h63; simp at h63 ⊢; omega) (growslice_fits (by omega) (by simpa using hlen))
      have hq := grown 0 (by simp; omega)
      simp only [List.length_nil, Nat.zero_add] at hr hq ⊢
      exact ⟨_, _, hr, hq, hbl _, hgr _ _⟩
  · by_cases hr0 : xs.length + n ≤ cap
    · have hr := run_append_room_src (P := P) w T T ty E i ht hi g o xs.length cap x n news hs1 hr0 (fun j hj => by rw [h1, Nat.mul_one, Nat.add_assoc]; exact (hroom (xs.length + j) (by omega)).1) (fun j hj => by rw [h1, Nat.mul_one, Nat.add_assoc]; exact (hroom (xs.length + j) (by omega)).2)
      rw [h1, Nat.mul_one] at hr
      refine ⟨_, _, hr, .inr ⟨g, o, cap, by rw [List.length_append, hn], hg, by rw [size_setCells]; exact hgl, by rw [List.length_append, hn]; exact hr0, fun j hj => ⟨?_, ?_⟩, fun j u hu => ?_⟩, below_setCells _ _ _ _ hg hgl, gb_setCells _ _ _ _ hgl⟩
      · exact World.isSome_setCells g news (o + xs.length) w _ (hroom j hj).1
      · rw [World.frozen?_setCells]; exact (hroom j hj).2
      · by_cases hj : j < xs.length
        · rw [List.getElem?_append_left hj] at hu
          rw [World.cell?_setCells_out g news (o + xs.length) w _ (fun _ _ => .inl (by simp only; omega))]
          exact hcell j u hu
        · rw [List.getElem?_append_right (by omega)] at hu
          obtain ⟨hj2, hu⟩ := List.getElem?_eq_some_iff.1 hu
          have := World.cell?_setCells_in g news (o + xs.length) w (fun k hk => by rw [Nat.add_assoc]; exact (hroom (xs.length + k) (by omega)).1) (j - xs.length) hj2
          rw [show o + xs.length + (j - xs.length) = o + j by omega, hu] at this
          exact this
    · have hr := run_append_grow_src (P := P) w T T ty E i z ht hi hz (some ⟨g, o, none⟩) xs.length cap xs (run_firstCells_some w.drew i.size xs.length ⟨g, o, none⟩ xs.length cap xs (by rw [h1, Nat.mul_one]) (fun j u hu => by rw [Addr.add_mid]; exact hcell j u hu)) x n news hs1 (by omega) (by unfold maxLen at h63; omega) (growslice_fits (by omega) hlen)
      exact ⟨_, _, hr, grown cap (by omega), hbl _, hgr _ _⟩
end
end Go.Proofs.YtkopjmofdnlplaaGreatDoor.Tm
namespace Go.Proofs.YtkopjmofdnlplaaGreatDoor.Tm
open Go.Maps Go.ChangeShapes Go.RowKit Go.Proofs.YtkopjmofdnlplaaGreatDoor.Lex Go.Proofs.YtkopjmofdnlplaaGreatDoor.Dig
theorem zeroB (w : World) : (zeroValue 4).run Tryz.prog w = .ok (.bool false) w := by kernel_rfl
theorem bool_inv {v : Value} {b : Bool} {ps : List MemPlace} (h : plainElem (H := Unit) Tryz.prog 4 v = some (.lit (.bool b), ps)) : v = .bool b := by
  cases v <;> simp [plainElem, Tryz.underlying4] at h
  rw [h.1]
theorem keyedI : Keyed Tryz.prog 3 := int_keyed Tryz.underlying3
/-- The map at block b answers M. -/
def MI (w : World) (b n : Nat) (M : Int → Bool) : Prop := ∃ D : DataW Unit, w.ownsMap Tryz.prog 3 (plainElem Tryz.prog 4) b n D ∧ IsMap D ∧ ∀ x : Int, D.atKey (.int .i64 x) (.lit (.bool false)) = .lit (.bool (M x))
theorem mI_new (w : World) : MI (w.alloc (.map #[] 0)) w.heap.size 0 (fun _ => false) :=
  ⟨.map [], World.ownsMap_made w _ _ _, (World.ownsMap_made w Tryz.prog 3 (plainElem (H := Unit) Tryz.prog 4)).isMap, fun _ => rfl⟩
theorem MI.kept {w w' : World} {b n : Nat} {M : Int → Bool} {row : Option Nat} (h : MI w b n M) (hg : w.grownBy w' row) (hne : some b ≠ row) : MI w' b n M := by
  obtain ⟨D, h1, h2, h3⟩ := h
  exact ⟨D, h1.kept hg hne, h2, h3⟩
theorem MI.below {w w' : World} {b n : Nat} {M : Int → Bool} (h : MI w b n M) (hb : Below w.heap.size w w') : MI w' b n M :=
  h.kept (row := none) ⟨hb.os, hb.tape, hb.output, hb.size, fun k hk _ => hb.block k hk⟩ (by simp)
theorem MI.lt {w : World} {b n : Nat} {M : Int → Bool} (h : MI w b n M) : b < w.heap.size := by
  obtain ⟨D, h1, _⟩ := h
  exact h1.lt
theorem MI.get {w : World} {b n : Nat} {M : Int → Bool} (h : MI w b n M) (x : Int) (hx : -9223372036854775808 ≤ x ∧ x ≤ 9223372036854775807) : (Instr.lookup 193 (.map (some b)) (.int .i64 x) false).run Tryz.prog w = .ok (.bool (M x)) w := by
  obtain ⟨D, h1, h2, h3⟩ := h
  obtain ⟨v, ps, hrun, hv⟩ := h1.lookup keyedI Tryz.underlying193 (z := .bool false) (zeroB w) (plainElem_bool Tryz.underlying4 false) (keyOf_int_mk Tryz.underlying3 (by simp [Lit.wf, IntKind.min, IntKind.max, IntKind.signed, IntKind.bits]; omega))
  rw [h3 x] at hv
  rw [hrun, bool_inv hv]
theorem MI.put {w : World} {b n : Nat} {M : Int → Bool} (h : MI w b n M) (hn : n ≤ 1000000) (x : Int) (hx : -9223372036854775808 ≤ x ∧ x ≤ 9223372036854775807) : ∃ w', (Instr.mapUpdate 193 (.map (some b)) (.int .i64 x) (.bool true)).run Tryz.prog w = .ok () w' ∧ MI w' b (n + 1) (fun y => if y = x then true else M y) ∧ w.grownBy w' (some b) := by
  obtain ⟨D, h1, h2, h3⟩ := h
  obtain ⟨w', r1, r2, r3⟩ := h1.update keyedI Tryz.underlying193 (by unfold maxLen; omega) (keyOf_int_mk Tryz.underlying3 (by simp [Lit.wf, IntKind.min, IntKind.max, IntKind.signed, IntKind.bits]; omega)) (plainElem_bool (H := Unit) Tryz.underlying4 true)
  refine ⟨w', r1, ⟨_, r2, h2.put _ _, fun y => ?_⟩, r3⟩
  show _ = DataW.lit (.bool (if y = x then true else M y))
  by_cases e : y = x
  · subst e
    rw [if_pos rfl]
    exact atKey_put_same h2 (by trivial) _ _
  · rw [if_neg e, atKey_put_other (fun q => by injection q with _ q; exact e q)]
    exact h3 y
theorem keyedS : Keyed Tryz.prog 9 := string_keyed Tryz.underlying9
/-- The map at block b answers M. -/
def MS (w : World) (b n : Nat) (M : ByteArray → Bool) : Prop := ∃ D : DataW Unit, w.ownsMap Tryz.prog 9 (plainElem Tryz.prog 4) b n D ∧ IsMap D ∧ ∀ x : ByteArray, D.atKey (.string x.data.toList) (.lit (.bool false)) = .lit (.bool (M x))
theorem mS_new (w : World) : MS (w.alloc (.map #[] 0)) w.heap.size 0 (fun _ => false) :=
  ⟨.map [], World.ownsMap_made w _ _ _, (World.ownsMap_made w Tryz.prog 9 (plainElem (H := Unit) Tryz.prog 4)).isMap, fun _ => rfl⟩
theorem MS.kept {w w' : World} {b n : Nat} {M : ByteArray → Bool} {row : Option Nat} (h : MS w b n M) (hg : w.grownBy w' row) (hne : some b ≠ row) : MS w' b n M := by
  obtain ⟨D, h1, h2, h3⟩ := h
  exact ⟨D, h1.kept hg hne, h2, h3⟩
theorem MS.below {w w' : World} {b n : Nat} {M : ByteArray → Bool} (h : MS w b n M) (hb : Below w.heap.size w w') : MS w' b n M :=
  h.kept (row := none) ⟨hb.os, hb.tape, hb.output, hb.size, fun k hk _ => hb.block k hk⟩ (by simp)
theorem MS.lt {w : World} {b n : Nat} {M : ByteArray → Bool} (h : MS w b n M) : b < w.heap.size := by
  obtain ⟨D, h1, _⟩ := h
  exact h1.lt
theorem MS.get {w : World} {b n : Nat} {M : ByteArray → Bool} (h : MS w b n M) (x : ByteArray) (hx : x.size ≤ 1000) : (Instr.lookup 124 (.map (some b)) (.string x) false).run Tryz.prog w = .ok (.bool (M x)) w := by
  obtain ⟨D, h1, h2, h3⟩ := h
  obtain ⟨v, ps, hrun, hv⟩ := h1.lookup keyedS Tryz.underlying124 (z := .bool false) (zeroB w) (plainElem_bool Tryz.underlying4 false) (Go.WideMaps.keyOf_string_mk Tryz.underlying9 (s := x) (by unfold maxLen; omega))
  rw [h3 x] at hv
  rw [hrun, bool_inv hv]
theorem MS.put {w : World} {b n : Nat} {M : ByteArray → Bool} (h : MS w b n M) (hn : n ≤ 1000000) (x : ByteArray) (hx : x.size ≤ 1000) : ∃ w', (Instr.mapUpdate 124 (.map (some b)) (.string x) (.bool true)).run Tryz.prog w = .ok () w' ∧ MS w' b (n + 1) (fun y => if y = x then true else M y) ∧ w.grownBy w' (some b) := by
  obtain ⟨D, h1, h2, h3⟩ := h
  obtain ⟨w', r1, r2, r3⟩ := h1.update keyedS Tryz.underlying124 (by unfold maxLen; omega) (Go.WideMaps.keyOf_string_mk Tryz.underlying9 (s := x) (by unfold maxLen; omega)) (plainElem_bool (H := Unit) Tryz.underlying4 true)
  refine ⟨w', r1, ⟨_, r2, h2.put _ _, fun y => ?_⟩, r3⟩
  show _ = DataW.lit (.bool (if y = x then true else M y))
  by_cases e : y = x
  · subst e
    rw [if_pos rfl]
    exact atKey_put_same h2 (by trivial) _ _
  · rw [if_neg e, atKey_put_other (fun q => by injection q with q; exact e (by apply ByteArray.ext; exact Array.toList_inj.1 q))]
    exact h3 y
theorem qu_src {w : World} {B : Nat} {v : Value} {xs : List Value} (h : Qu w B v xs) (h1 : ∀ u ∈ xs, u.oneCell' = true) {T E : Nat} (hT : Tryz.prog.underlying T = some (.slice E)) : Src Tryz.prog 1 T v xs.length xs w := by
  rcases h with ⟨rfl, rfl⟩ | ⟨g, o, cap, rfl, _, _, _, _, hc⟩
  · exact Src.ofNil w hT 0
  · exact Src.ofSlice w hT _ _ _ _ (by simp) (fun j u hu => by rw [Addr.add_mid]; exact hc j u hu) h1
section
variable {w : World}
theorem qu_append_wp {ops : Array Oper} {rest : List Oper} {o : Oper} {a : Act} {Q : Exit → Act → World → Prop} (hgd : o.guard = none) (s x : Operand) (T : Nat)
    (ho : o.op = .call { callee := .builtin .append, args := #[s, x], argTypes := #[T, T] })
    (B E : Nat) (z : Value) (bytes : Nat) (ht : Tryz.prog.underlying T = some (.slice E)) (hinfo : (Tryz.prog.info? E).map (fun i => (i.zero, i.size, i.bytes)) = some (some z, 1, bytes)) (hzs : z.cells.size = 1)
    (v : Value) (xs : List Value) (hs : a.eval s = v) (hv : Qu w B v xs)
    (y : Value) (news : List Value) (hx : a.eval x = y) (hsrc : Src Tryz.prog 1 T y news.length news w)
    (hlen : (xs.length + news.length) * bytes ≤ 1000000000000) (hlen2 : xs.length + news.length ≤ 1000000000000) (hbase : B ≤ w.heap.size)
    (h : ∀ v' w', Qu w' B v' (xs ++ news) → Below B w w' → w.grownBy w' v.ownBlock → wpList Tryz.prog ops Q rest (a.put o.dst v') w') : wpList Tryz.prog ops Q (o :: rest) a w := by
  refine wpList_plain hgd fun K hK => ?_
  obtain ⟨i, hi, hz0, hz1, hz2⟩ := info_parts hinfo
  obtain ⟨v', w', hr, h2, h3, h4⟩ := qu_append (P := Tryz.prog) (ty := o.type) hv ht hi hz0 hz1 hzs hsrc (by rw [hz2]; omega) (by unfold maxLen; omega) hbase
  unfold Oper.wp execOp
  simp only [ho, resolve, invoke, builtin, Sem.run_bind, Sem.run_pure, Result.andThen_ok, List.map_toArray, List.map_cons, List.map_nil, hs, hx, hr]
  exact hK _ _ (h v' w' h2 h3 h4)
end
/-- One step of the queue: how much is left. -/
def left (n : Nat) (M : Int → Bool) : Nat := ((List.range n).filter fun k : Nat => !M (k : Int)).length
theorem left_put {n : Nat} {M : Int → Bool} {k : Nat} (hk : k < n) (h : M k = false) : left n (fun y => if y = (k : Int) then true else M y) < left n M := by
  unfold left
  induction n with
  | zero => omega
  | succ n ih =>
    rw [List.range_succ, List.filter_append, List.filter_append, List.length_append, List.length_append]
    by_cases e : k = n
    · subst e
      have h1 : ((List.range k).filter fun j : Nat => !(if (j : Int) = (k : Int) then true else M (j : Int))) = (List.range k).filter fun j : Nat => !M (j : Int) := by
        refine List.filter_congr fun j hj => ?_
        rw [List.mem_range] at hj
        rw [if_neg (by omega)]
      rw [h1]
      simp [h]
    · have := ih (by omega)
      have h2 : (n : Int) ≠ (k : Int) := by omega
      rw [show ([n].filter fun j : Nat => !(if (j : Int) = (k : Int) then true else M (j : Int))) = [n].filter fun j : Nat => !M (j : Int) from List.filter_congr fun j hj => by rw [List.mem_singleton] at hj; subst hj; rw [if_neg h2]]
      omega
/-- The Checks over which the Check k's sum is taken. -/
def cov (l : List It) (k : Nat) : List Nat := match l[k]? with | some x => coversF l x | none => []
theorem cov_at {l : List It} {k : Nat} (h : k < l.length) : cov l k = coversF l l[k] := by unfold cov; rw [List.getElem?_eq_getElem h]
theorem cov_lt {l : List It} {k y : Nat} (h : y ∈ cov l k) : y < l.length := by
  unfold cov at h
  split at h
  · exact List.mem_range.1 (List.mem_filter.1 h).1
  · cases h
/-- One comes from i tq the last by such Checks. -/
inductive Rch (l : List It) (i : Nat) : Nat → Prop
  | one {y : Nat} : y ∈ cov l i → Rch l i y
  | more {x y : Nat} : Rch l i x → y ∈ cov l x → Rch l i y
/-- What the queue xs and the map M of what was seen say, while one looks for tq. -/
structure Cs (l : List It) (i tq : Nat) (xs : List Nat) (M : Int → Bool) : Prop where
  sound : ∀ x ∈ xs, Rch l i x
  seen : ∀ k : Nat, M (k : Int) = true → k ≠ tq ∧ ∀ y ∈ cov l k, y ∈ xs ∨ M (y : Int) = true
  first : ∀ y ∈ cov l i, y ∈ xs ∨ M (y : Int) = true
theorem Cs.start (l : List It) (i tq : Nat) : Cs l i tq (cov l i) (fun _ => false) :=
  ⟨fun _ h => .one h, fun _ h => (by cases h), fun _ h => .inl h⟩
theorem Cs.old {l : List It} {i tq k : Nat} {r : List Nat} {M : Int → Bool} (h : Cs l i tq (k :: r) M) (hm : M (k : Int) = true) : Cs l i tq r M := by
  have key : ∀ y, y ∈ k :: r ∨ M (y : Int) = true → y ∈ r ∨ M (y : Int) = true := by
    intro y hy
    rcases hy with hy | hy
    · rcases List.mem_cons.1 hy with rfl | hy
      · exact .inr hm
      · exact .inl hy
    · exact .inr hy
  exact ⟨fun x hx => h.sound x (List.mem_cons_of_mem _ hx), fun j hj => ⟨(h.seen j hj).1, fun y hy => key y ((h.seen j hj).2 y hy)⟩, fun y hy => key y (h.first y hy)⟩
theorem Cs.new {l : List It} {i tq k : Nat} {r : List Nat} {M : Int → Bool} (h : Cs l i tq (k :: r) M) (hk : k ≠ tq) : Cs l i tq (r ++ cov l k) (fun y => if y = (k : Int) then true else M y) := by
  have key : ∀ y : Nat, y ∈ k :: r ∨ M (y : Int) = true → y ∈ r ++ cov l k ∨ (if (y : Int) = (k : Int) then true else M (y : Int)) = true := by
    intro y hy
    by_cases e : (y : Int) = (k : Int)
    · exact .inr (if_pos e)
    · rw [if_neg e]
      rcases hy with hy | hy
      · rcases List.mem_cons.1 hy with rfl | hy
        · exact absurd rfl e
        · exact .inl (List.mem_append_left _ hy)
      · exact .inr hy
  refine ⟨fun x hx => ?_, fun j hj => ?_, fun y hy => key y (h.first y hy)⟩
  · rcases List.mem_append.1 hx with hx | hx
    · exact h.sound x (List.mem_cons_of_mem _ hx)
    · exact .more (h.sound k List.mem_cons_self) hx
  · by_cases e : (j : Int) = (k : Int)
    · obtain rfl : j = k := by omega
      exact ⟨hk, fun y hy => .inl (List.mem_append_right _ hy)⟩
    · simp only [if_neg e] at hj
      exact ⟨(h.seen j hj).1, fun y hy => key y ((h.seen j hj).2 y hy)⟩
theorem Cs.none {l : List It} {i tq : Nat} {M : Int → Bool} (h : Cs l i tq [] M) : ¬ Rch l i tq := by
  have key : ∀ y, Rch l i y → M (y : Int) = true := by
    intro y hy
    induction hy with
    | one hy => rcases h.first _ hy with h1 | h1
                · cases h1
                · exact h1
    | more _ hy ih => rcases (h.seen _ ih).2 _ hy with h1 | h1
                      · cases h1
                      · exact h1
  exact fun hr => (h.seen tq (key tq hr)).1 rfl
def CmR (W : World) (Mb : Nat) (l : List It) (i tq : Nat) (g : Nat) (v : Value) (wr : World) : Prop := ∃ (xs : List Nat) (n : Nat) (M : Int → Bool), Hid (Qu wr (Mb + 1) v (i64s (xs.map Int.ofNat))) ∧ Hid (MI wr Mb n M) ∧ n + left l.length M ≤ l.length ∧ Hid (∀ x ∈ xs, x < l.length) ∧ g = 17 * left l.length M + xs.length ∧ g ≤ 300 ∧ Hid (Below W.heap.size W wr) ∧ Mb < wr.heap.size ∧ Hid (Cs l i tq xs M)
theorem qu_pop {w : World} {B k : Nat} {v : Value} {r : List Nat} (h : Qu w B v (i64s ((k :: r).map Int.ofNat))) : ∃ g o cap, v = .slice (some ⟨g, o, none⟩) (r.length + 1) cap ∧ r.length + 1 ≤ cap ∧ w.cell? ⟨g, o, none⟩ = some (.int .i64 (k : Nat)) ∧ ∀ A, (if cap = 1 then some (⟨g, o, none⟩ : Addr) else some ⟨g, o + 1, none⟩) = A → Qu w B (.slice A r.length (cap - 1)) (i64s (r.map Int.ofNat)) := by
  rcases h with ⟨_, h⟩ | ⟨g, o, cap, rfl, h1, h2, h3, h4, h5⟩
  · simp [i64s] at h
  · have hl : (i64s ((k :: r).map Int.ofNat)).length = r.length + 1 := by simp [i64s]
    rw [hl] at h3
    refine ⟨g, o, cap, by rw [hl], h3, h5 0 _ (by simp [i64s]), fun A hA => ?_⟩
    have hl2 : (i64s (r.map Int.ofNat)).length = r.length := by simp [i64s]
    have h6 : ∀ j u, (i64s (r.map Int.ofNat))[j]? = some u → w.cell? ⟨g, o + 1 + j, none⟩ = some u := fun j u hu => by
      have := h5 (j + 1) u (by simpa [i64s] using hu)
      rwa [show o + 1 + j = o + (j + 1) by omega]
    by_cases e : cap = 1
    · rw [if_pos e] at hA
      subst hA
      have hr : r = [] := List.eq_nil_of_length_eq_zero (by omega)
      subst hr
      subst e
      exact .inr ⟨g, o, 0, by simp [i64s], h1, h2, by simp [i64s], fun j hj => absurd hj (Nat.not_lt_zero j), fun j u hu => by simp [i64s] at hu⟩
    · rw [if_neg e] at hA
      subst hA
      exact .inr ⟨g, o + 1, cap - 1, by rw [hl2], h1, h2, by rw [hl2]; omega, fun j hj => by rw [show o + 1 + j = o + (j + 1) by omega]; exact h4 (j + 1) (by omega), h6⟩
section
variable {W : World}
set_option maxRecDepth 100000 in
set_option maxHeartbeats 2000000 in
theorem comes_any (v : Value) (l : List It) (hl : l.length ≤ 16) (h : ItsAt W v l) (i : Nat) (hi : i < l.length) (tq : Nat) : Calls Tryz.prog 115 #[v, .int .i64 (i : Nat), .int .i64 (tq : Nat)] W fun e w' => (∃ b, e = .returned (.bool b) ∧ (b = true ↔ Rch l i tq)) ∧ Below W.heap.size W w' := by
  obtain ⟨a, cap, rfl, hcap, hr⟩ := id h
  have HI := Lib.hid h
  have hmm := @run_makeMap Tryz.prog
  have m0 := Lib.hid (mI_new W)
  have b0 := Lib.hid (show Below W.heap.size W (W.alloc (.map #[] 0)) from (Below.refl _ _).alloc (Nat.le_refl _) _)
  have HC := Lib.hid (covers_any _ l hl (ItsAt.below h b0.out) i hi)
  clear h hr
  go_enter Tryz.func115, Tryz.ntmps115
  go_wp2_with fail
  refine (HC.out).mono ?_; rintro e w1 ⟨u, rfl, ho, hb⟩
  have hsz : (W.alloc (.map #[] 0)).heap.size = W.heap.size + 1 := by simp
  rw [hsz] at ho
  have Q1 := Lib.hid (own_qu ho)
  obtain ⟨a5, c5, rfl⟩ := ho.len
  have M1 := Lib.hid (m0.out.below hb)
  have B1 := Lib.hid (below_append (Below.refl W.heap.size W) (.map #[] 0) (Nat.le_refl _) (hb.mono (by omega)))
  have hs1 : W.heap.size < w1.heap.size := by have := hb.size; omega
  have hcl : (coversF l l[i]).length ≤ 16 := by unfold coversF; exact Nat.le_trans (List.length_filter_le _ _) (by rw [List.length_range]; exact hl)
  have hlf : left l.length (fun _ => false) ≤ l.length := by unfold left; exact Nat.le_trans (List.length_filter_le _ _) (by rw [List.length_range]; exact Nat.le_refl _)
  have CL := Lib.hid (show ∀ x ∈ coversF l l[i], x < l.length from fun x hx => List.mem_range.1 (List.mem_filter.1 hx).1)
  clear ho hb hmm m0 b0 HC hsz
  have CS0 := Lib.hid (Cs.start l i tq)
  rw [cov_at hi] at CS0
  generalize coversF l l[i] = ys at *
  go_wp2_with fail
  go_loopg [8] (17 * left l.length (fun _ => false) + ys.length) (fun g v wr => CmR W W.heap.size l i tq g v wr)
  case atStart => exact ⟨ys, 0, _, Q1, M1, by omega, CL, rfl, by omega, B1, hs1, CS0⟩
  case round =>
    clear Q1 M1 B1 CS0
    obtain ⟨xs, n, M, hq, hM, hn, hx, hg, hg3, hB, hlt, hcs⟩ := hrel
    cases xs with
    | nil =>
      obtain ⟨a6, c6, rfl⟩ := hq.out.len
      have e0 : (i64s (([] : List Nat).map Int.ofNat)).length = 0 := rfl
      rw [e0]
      go_wp2_with fail
      go_ret
      exact ⟨⟨_, rfl, by simp only [Bool.false_eq_true, false_iff]; exact hcs.out.none⟩, hB.out⟩
    | cons k r =>
      obtain ⟨g, o, cp, rfl, hcp, hc0, hpop⟩ := qu_pop hq.out
      have hk := hx.out k (List.mem_cons_self)
      have d0 : (0 : Int) < ((r.length : Int) + 1) := by omega
      obtain ⟨A, hA⟩ : ∃ A, (if cp = 1 then some (⟨g, o, none⟩ : Addr) else some ⟨g, o + 1, none⟩) = A := ⟨_, rfl⟩
      have Q2 := Lib.hid (hpop A hA)
      have get := hM.out.get (k : Int) (by omega)
      have I2 := Lib.hid (ItsAt.below HI.out hB.out)
      clear hpop
      by_cases hkt : (k : Int) = (tq : Int)
      · have hb1 : ((k : Int) == (tq : Int)) = true := by simpa using hkt
        have hR := Lib.hid (show Rch l i tq by obtain rfl : k = tq := by omega
                                               exact hcs.out.sound k List.mem_cons_self)
        clear hkt
        go_wp2_with fail
        go_ret
        exact ⟨⟨_, rfl, by simp only [true_iff]; exact hR.out⟩, hB.out⟩
      · have hb1 : ((k : Int) == (tq : Int)) = false := by simpa using hkt
        have hkn : k ≠ tq := fun e => hkt (by rw [e])
        obtain ⟨mk, hmk⟩ : ∃ b, M (k : Int) = b := ⟨_, rfl⟩
        rw [hmk] at get
        cases mk with
        | true =>
          have HMK := Lib.hid hmk
          clear hmk
          clear hkt
          go_wp2_with fail
          go_roundg (gk - 1)
          case measure => simp only [List.length_cons] at hg; omega
          case rel => exact ⟨r, n, M, Q2, hM, hn, Lib.hid (fun x hx' => hx.out x (List.mem_cons_of_mem _ hx')), by simp only [List.length_cons] at hg; omega, by omega, hB, hlt, Lib.hid (hcs.out.old HMK.out)⟩
        | false =>
          obtain ⟨w2, e2, hM2, hg2⟩ := hM.out.put (by omega) (k : Int) (by omega)
          have L2 := left_put (M := M) hk hmk
          have M2 := Lib.hid hM2
          have G2 := Lib.hid hg2
          have B2 := Lib.hid (below_of_gb hB.out hg2 (Nat.le_refl _) (Nat.le_of_lt hlt))
          have HC := Lib.hid (covers_any _ l hl (ItsAt.below HI.out B2.out) k hk)
          have Q3 := Lib.hid (Q2.out.grown hg2 (Nat.lt_succ_self _))
          have s2 := hg2.size
          clear hM2 hg2 hkt
          go_wp2_with fail
          refine (HC.out).mono ?_; rintro e w3 ⟨u, rfl, ho, hb⟩
          have hcl2 : (coversF l l[k]).length ≤ 16 := by unfold coversF; exact Nat.le_trans (List.length_filter_le _ _) (by rw [List.length_range]; exact hl)
          have CL2 := Lib.hid (show ∀ x ∈ coversF l l[k], x < l.length from fun x hx => List.mem_range.1 (List.mem_filter.1 hx).1)
          have CS2 := Lib.hid (hcs.out.new hkn)
          rw [cov_at hk] at CS2
          generalize coversF l l[k] = zs at *
          have S3 := Lib.hid (qu_src (T := 57) (own_qu ho) (fun u hu => by obtain ⟨_, _, rfl⟩ := List.mem_map.1 hu; rfl) Tryz.underlying57)
          have Q4 := Lib.hid (Q3.out.below hb)
          have M4 := Lib.hid (M2.out.below hb)
          have B4 := Lib.hid (B2.out.trans (hb.mono B2.out.size))
          have s3 := hb.size
          obtain ⟨a7, c7, rfl⟩ := ho.len
          have el1 : (i64s (r.map Int.ofNat)).length = r.length := by simp [i64s]
          have el2 : (i64s (zs.map Int.ofNat)).length = zs.length := by simp [i64s]
          rw [el2] at S3 ⊢
          simp only [List.length_cons] at hg
          clear ho hb HC
          go_wp2_with (at_builtin; refine qu_append_wp rfl _ _ 57 rfl (W.heap.size + 1) 3 (.int .i64 0) 8 Tryz.underlying57 (by kernel_rfl) rfl (.slice A r.length (cp - 1)) _ rfl Q4.out (.slice a7 zs.length c7) (i64s (zs.map Int.ofNat)) rfl (by rw [el2]; exact S3.out) (by rw [el1, el2]; omega) (by rw [el1, el2]; omega) (by omega) ?_; intro v8 w8 hq8 hb8 hg8; have Q8 := Lib.hid hq8; have B8 := Lib.hid hb8; have G8 := Lib.hid hg8; clear hq8 hb8 hg8)
          go_roundg (17 * left l.length (fun y => if y = (k : Int) then true else M y) + (r ++ zs).length)
          case measure => rw [List.length_append]; omega
          case rel =>
            have hne : some W.heap.size ≠ (Value.slice A r.length (cp - 1)).ownBlock := by
              intro e
              rcases Q4.out with ⟨h, _⟩ | ⟨g', o', cap', h, h1, _⟩
              · rw [h] at e; simp [Value.ownBlock] at e
              · rw [h] at e; simp [Value.ownBlock] at e; omega
            refine ⟨r ++ zs, n + 1, _, Lib.hid ?_, Lib.hid (M4.out.kept G8.out hne), by omega, Lib.hid (fun x hx' => ?_), rfl, by rw [List.length_append]; omega, Lib.hid (B4.out.trans (B8.out.mono (Nat.le_succ _))), by have := B8.out.size; omega, CS2⟩
            · rw [List.map_append, show i64s (r.map Int.ofNat ++ zs.map Int.ofNat) = i64s (r.map Int.ofNat) ++ i64s (zs.map Int.ofNat) by simp [i64s]]
              exact Q8.out
            · rcases List.mem_append.1 hx' with h | h
              · exact hx.out x (List.mem_cons_of_mem _ h)
              · exact CL2.out x h
end
end Go.Proofs.YtkopjmofdnlplaaGreatDoor.Tm
