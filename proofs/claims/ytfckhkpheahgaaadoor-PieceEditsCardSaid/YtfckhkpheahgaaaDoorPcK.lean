/-
  PROVED HERE: the contracts of piece's Slice and String. Conditions: as each theorem states.
-/
import Derived.Test.YtfckhkpheahgaaaDoorPcJ
import Derived.Lib.AppendStr
namespace Go.Proofs.YtfckhkpheahgaaaDoor.Pc
open Go.RowKit Go.Shelf Go.Lib
attribute [local go_sem] Oper.semAt_some
section
variable {F : Fence} {n' : Nat} {P : Program}
/-- append of a string's bytes, within a fence. -/
theorem wpListIn_append_str {ops : Array Oper} {rest : List Oper} {o : Oper} {a : Act} {Q : Exit → Act → World → Prop} (w : World) (hgd : o.guard = none) (sl x : Operand) (t u : TypeId)
    (ho : o.op = .call { callee := .builtin .append, args := #[sl, x], argTypes := #[t, u] })
    (base : Nat) (e : TypeId) (i : TypeInfo) (ht : P.underlying t = some (.slice e)) (hu : P.underlying u = some .string) (hi : P.info? e = some i) (hz : i.zero = some (.int .u8 0))
    (hsize : i.size = 1) (hby : i.bytes = 1)
    (v : Value) (n : Nat) (xs : List Value) (hs : a.eval sl = v) (hown : w.ownsRow base e 1 v n xs) (s : ByteArray) (hx : a.eval x = .string s)
    (h63 : n + s.size ≤ maxLen) (hbytes : n + s.size ≤ 140737488355328) (hbase : base ≤ w.heap.size)
    (h : ∀ v' w', w'.ownsRow base e 1 v' (n + s.size) (xs ++ strCells s) → w.grownBy w' v.ownBlock → (v' = .slice none 0 0 ↔ v = .slice none 0 0 ∧ s.size = 0) → wpListIn F n' P ops Q rest (a.put o.dst v') w') : wpListIn F n' P ops Q (o :: rest) a w := by
  refine wpListIn_plain hgd fun K hK => ?_
  obtain ⟨v', w', hr, h2, h3, h4⟩ := run_append_own_string (P := P) w base t u o.type e i ht hu hi hz hsize hby v n xs hown s h63 hbytes hbase
  unfold Oper.wpIn
  refine ⟨?_, ?_⟩
  · simp [Oper.about, ho, resolve, Target.leads, Sem.run_pure]
  · rw [Oper.semAt_plain F _ _ (by rw [ho]; intro c hc'; cases hc')]
    simp [execOp, ho, resolve, invoke, builtin, hs, hx, hr, Result.andThen]
    exact hK _ _ (h v' w' h2 h3 h4)
end
theorem appended0 {W w1 : World} {n₀ B : Nat} {t e : TypeId} {size : Nat} {v v' : Value} {k m : Nat} {xs ys : List Value}
    (hv : Boxed W B t v) (hte : t ≠ e) (hrow : W.ownsRow n₀ e size v k xs) (hn₀ : n₀ ≤ W.heap.size) (hB : n₀ ≤ B)
    (hown' : w1.ownsRow n₀ e size v' m ys) (hgrow : W.grownBy w1 v.ownBlock) :
    Boxed w1 B t v ∧ Boxed (w1.setCell ⟨B, 0, none⟩ v') B t v' ∧ (w1.setCell ⟨B, 0, none⟩ v').ownsRow n₀ e size v' m ys ∧ KeepsOthers W (w1.setCell ⟨B, 0, none⟩ v') ∧ Below n₀ W (w1.setCell ⟨B, 0, none⟩ v') := by
  have hv1 : Boxed w1 B t v := hv.kept hgrow (hv.not_row hte hrow)
  refine ⟨hv1, hv1.set v', hown'.kept (grownBy_setCell' w1 B v') (.inr (hv1.not_row hte hown').symm), ?_, ?_⟩
  · refine (KeepsOthers.of_grownBy hgrow fun j o ej hj => ?_).trans (KeepsOthers.setCell _ _ _)
    rcases hrow.2 with ⟨rfl, _⟩ | ⟨g, cap, cur, rfl, _, hgb, _⟩
    · simp [Value.ownBlock] at ej
    · obtain rfl : g = j := by simpa [Value.ownBlock] using ej
      rw [hgb] at hj; cases hj; rfl
  · refine ((Below.refl n₀ W).grown hgrow hn₀ fun j ej => ?_).setCell (p := ⟨B, 0, none⟩) hB v'
    rcases hrow.2 with ⟨rfl, _⟩ | ⟨g, cap, cur, rfl, hb, _, _⟩
    · simp [Value.ownBlock] at ej
    · obtain rfl : g = j := by simpa [Value.ownBlock] using ej
      exact hb
theorem row_slice {w : World} {B E size n : Nat} {v : Value} {xs : List Value} (h : w.ownsRow B E size v n xs) : ∃ a m c, v = .slice a m c := by
  rcases h.2 with ⟨rfl, _⟩ | ⟨g, cap, cur, rfl, _⟩
  · exact ⟨_, _, _, rfl⟩
  · exact ⟨_, _, _, rfl⟩
def flat (pre : List ByteArray) : List UInt8 := (pre.map fun x => lst (capS x)).flatten
theorem flat_snoc (pre : List ByteArray) (x : ByteArray) : flat (pre ++ [x]) = flat pre ++ lst (capS x) := by simp [flat]
theorem flat_len (pre : List ByteArray) : (flat pre).length ≤ pre.length * 50000 := by
  unfold flat
  induction pre with
  | nil => simp
  | cons x xs ih =>
    have := capS_le x
    simp only [List.map_cons, List.flatten_cons, List.length_append, lst_len, List.length_cons]
    omega
theorem flat_parts : ∀ T : Tr, T.txt.length ≤ 50000 → flat T.parts = T.txt
  | .nil, _ => rfl
  | .node l t r, h => by
    rw [len_node] at h
    have h1 := flat_parts l (by omega)
    have h2 := flat_parts r (by omega)
    unfold flat at *
    simp only [Tr.parts, List.map_append, List.map_cons, List.flatten_append, List.flatten_cons, capS_of (show t.size ≤ 50000 by omega), txt_node, h1, h2, List.append_assoc]
theorem parts_len : ∀ T : Tr, T.NE → T.parts.length ≤ T.txt.length
  | .nil, _ => Nat.le_refl _
  | .node l t r, h => by
    have h1 := parts_len l h.1
    have h2 := parts_len r h.2.2
    have h3 := h.2.1
    rw [len_node]
    simp only [Tr.parts, List.length_append, List.length_cons]
    omega
theorem cells_u8s (s : ByteArray) : strCells s = u8s (lst s) := rfl
def SliceP (x : List UInt8) (c : Int) (w : World) (e : Ending) (w' : World) : Prop := ∃ u, e = .returned (.tuple #[.string ⟨x.toArray⟩, u]) ∧ NErr u c ∧ Below w.heap.size w w'
set_option maxRecDepth 100000 in
set_option maxHeartbeats 4000000 in
theorem slice_yes (w : World) (p : Option Addr) (x : List UInt8) (i j : Nat) (h : Has w (.pointer p) x) (hx : x.length ≤ 4000) (hi : i ≤ j) (hj : j ≤ x.length) :
    Calls Tryd.prog 9 #[.agg #[.pointer p], .int .i64 (i : Int), .int .i64 (j : Int)] w (SliceP ((x.drop i).take (j - i)) 0 w) := by
  have L := Lib.hid (fun W (hW : Below w.heap.size w W) => len_any W p x (h.below hW))
  have C1 := Lib.hid (fun W (hW : Below w.heap.size w W) => cut_has i (h.below hW) (by omega) (by omega))
  have h1d : decide ((i : Int) < 0) = false := decide_eq_false (by omega)
  have h2d : decide (j < i) = false := decide_eq_false (by omega)
  have h3d : decide (x.length < j) = false := decide_eq_false (by omega)
  have h2e : decide ((j : Int) < (i : Int)) = false := decide_eq_false (by omega)
  have h3e : decide (((x.length : Nat) : Int) < (j : Int)) = false := decide_eq_false (by omega)
  have W0 : IntKind.i64.wrap ((j : Int) - (i : Int)) = ((j - i : Nat) : Int) := by rw [IntWalk.i64_in _ (by omega)]; omega
  have hdl : (x.drop i).length = x.length - i := List.length_drop
  clear h
  generalize hd : x.drop i = y at *
  generalize x.length = n at *
  obtain ⟨k, hk⟩ : ∃ k, j - i = k := ⟨_, rfl⟩
  rw [hk] at W0 ⊢
  have HK := Lib.hid (show k ≤ y.length by omega)
  have HY := Lib.hid (show y.length ≤ 4000 by omega)
  have HD := Lib.hid hd
  clear hk hd hdl hi hj
  refine (callsIn_wide (n := 8)).1 ?_
  refine callsIn_of_wp_marks Tryd.func9 rfl trivial ?_ rfl
  simp only [Tryd.ntmps9, List.size_toArray, List.length_cons, List.length_nil, Nat.reduceAdd, Nat.reduceSub, Array.replicate_succ, Array.replicate_zero, List.push_toArray, List.append_toArray, List.nil_append, List.cons_append]
  gi_wp2_with fail
  refine ⟨trivial, (callsIn_wide.2 (L.out _ ((Below.refl _ _).alloc (Nat.le_refl _) _))).mono ?_⟩; rintro e w1 ⟨rfl, hb1⟩
  have B1 := Lib.hid (((Below.refl w.heap.size w).alloc (Nat.le_refl _) (.cells #[.pointer p] 26)).trans (hb1.mono (by simp)))
  have g1 : w1.cell? ⟨w.heap.size, 0, none⟩ = some (.pointer p) := keepCell hb1 (by simp)
  clear hb1
  gi_wp2_with fail
  refine ⟨trivial, (callsIn_wide.2 (C1.out _ B1.out)).mono ?_⟩; rintro e w2 ⟨p1, q1, rfl, -, hq1, hb2⟩
  rw [HD.out] at hq1
  have B2 := Lib.hid (B1.out.trans (hb2.mono B1.out.size))
  have C2 := Lib.hid (cut_has k hq1 (by have := HY.out; omega) HK.out)
  clear hb2 hq1 g1
  gi_wp2_with fail
  refine ⟨trivial, (callsIn_wide.2 C2.out).mono ?_⟩; rintro e w3 ⟨p3, q3, rfl, hp3, -, hb3⟩
  have B3 := Lib.hid (B2.out.trans (hb3.mono B2.out.size))
  obtain ⟨T, hT, hN, hTx⟩ := hp3
  have HT := Lib.hid hT
  have HN := Lib.hid hN
  have HX := Lib.hid hTx
  clear hb3 hT hN hTx
  gi_wp2_with fail
  refine ⟨trivial, (all_in Fence.wide _ trivial rfl _ _).mono ?_⟩; rintro e w4 ⟨rfl, rfl⟩
  gi_wp2_with fail
  have bO := Boxed.new w3 52 (.slice none 0 0)
  have bN := Boxed.new (w3.alloc (.cells #[.slice none 0 0] 52)) 26 (.pointer p3)
  rw [World.size_alloc] at bN
  have hB0 : Below w3.heap.size w3 ((w3.alloc (.cells #[.slice none 0 0] 52)).alloc (.cells #[.pointer p3] 26)) := ((Below.refl _ w3).alloc (Nat.le_refl _) _).alloc (by simp) _
  have hTl : T.txt.length ≤ 4000 := by rw [HX.out, List.length_take]; have := HY.out; omega
  have hPl : T.parts.length ≤ 4000 := Nat.le_trans (parts_len T HN.out) hTl
  have hlow := (HT.out.low (Nat.le_refl _) (by omega)).below hB0
  have info8 : (Tryd.prog.info? 5).map (fun i => (i.zero, i.size, i.bytes)) = some (some (.int .u8 0), 1, 1) := by kernel_rfl
  obtain ⟨i0, hi0, hz0, hz1, hz2⟩ := info_parts info8
  refine wpIn_rangeFunc_ownG rfl (by decide) (gf := 22) (lb := #[.pointer (some ⟨w3.heap.size + 1, 0, none⟩)]) rfl trivial (enters_of Tryd.func22 (by kernel_rfl) rfl)
    (all_stops Fence.wide rfl _ trivial trivial rfl (w3.heap.size + 1) w3.heap.size p3 T _ (by simp) (by simp; omega) bN.cell hlow) belowK_t (belowK_b (by simp; omega)) (Below.refl _ _) (fun _ => rfl)
    (fun pre W => (∃ v, Boxed W w3.heap.size 52 v ∧ W.ownsRow w3.heap.size 5 1 v (flat pre).length (u8s (flat pre)) ∧ True) ∧ Below w3.heap.size w3 W)
    (fun _ _ _ => False)
    (OwnFrom.and (Own.from (holdsRow_own w3.heap.size w3.heap.size 52 5 1 (fun pre => (flat pre).length) (fun pre => u8s (flat pre)) (fun _ _ => True)) _) (ownFrom_below (Nat.le_refl _) (by simp; omega)))
    (fun _ _ _ _ _ hs _ _ => hs)
    ⟨⟨_, bO.alloc _, World.ownsRow_nil _ _ _ _, trivial⟩, hB0⟩
    (fun x => { tmps := #[.agg #[.pointer p], .int .i64 (i : Int), .int .i64 (j : Int), .pointer (some ⟨w.heap.size, 0, none⟩), undef, undef, .string ⟨#[]⟩, .nilIface, .pointer p1, .pointer p3, .pointer (some ⟨w3.heap.size, 0, none⟩), .string (capS x), .int .i64 (i : Int), .bool false, .bool false, .int .i64 (j : Int), .int .i64 (i : Int), .bool false, .bool false, .bool false, .int .i64 (j : Int), .agg #[.pointer p], .int .i64 (n : Int), .bool false, .bool false, undef, .tuple #[.pointer p1, .pointer q1], .pointer (some ⟨w.heap.size, 0, none⟩), .pointer p, .int .i64 (i : Int), .tuple #[.pointer p1, .pointer q1], .pointer p1, .pointer q1, .tuple #[.pointer p3, .pointer q3], .pointer q1, .int .i64 (j : Int), .int .i64 (i : Int), .int .i64 (k : Int), .tuple #[.pointer p3, .pointer q3], .pointer p3, .pointer q3, .pointer p3, .agg #[.pointer p3], .func (.func 22) #[] #[.pointer (some ⟨w3.heap.size + 1, 0, none⟩)], .string (capS x), undef, undef, undef, undef, undef], defers := [] }) ?assign ?body ?done ?stop
  case assign =>
    intro l x W K hK
    gi_wp2
    exact hK
  case body =>
    rintro l pre x W ⟨⟨v, hv, hrow, -⟩, hB⟩ hlt
    have hc := hv.cell
    have hpl := flat_len pre
    have hxl := capS_le x
    have hfl : (flat pre).length ≤ 200000000 := by omega
    have e1 : u8s (flat (pre ++ [x])) = u8s (flat pre) ++ strCells (capS x) := by rw [flat_snoc, cells_u8s]; simp [u8s]
    have e2 : (flat (pre ++ [x])).length = (flat pre).length + (capS x).size := by rw [flat_snoc, List.length_append, lst_len]
    have E1 := Lib.hid e1
    have E2 := Lib.hid e2
    clear e1 e2 hpl
    gi_wp2_with (gi_at_builtin; refine wpListIn_append_str _ rfl _ _ 52 9 rfl w3.heap.size 5 i0 Tryd.underlying52 Tryd.underlying9 hi0 hz0 hz1 hz2 _ _ _ rfl hrow (capS x) rfl (by unfold maxLen; omega) (by omega) hB.size ?_; intro v' w6 hown' hgrow _; obtain ⟨ad', m', c', rfl⟩ := row_slice hown'; obtain ⟨hv1, hv2, hr2, hk2, hb2⟩ := appended0 hv (by decide) hrow hB.size (Nat.le_refl _) hown' hgrow; have hc1 := hv1.cell; have hf1 := hv1.frozen)
    exact ⟨hk2.from _, hb2, ⟨_, hv2, by rw [E1.out, E2.out]; exact hr2, trivial⟩, hB.trans hb2⟩
  case done =>
    rintro D ys W hD rfl ⟨⟨v, hv, hrow, -⟩, hB⟩ hK
    have hc := hv.cell
    have hF := flat_parts T (by omega)
    rw [hF, HX.out] at hrow
    have hcv := own_string (B := w3.heap.size) (E := 5) (T := 52) (S := 9) (P := Tryd.prog) (w := W) (l := List.take k y) (v := v) (by unfold Own; rw [u8s_len]; exact hrow) Tryd.underlying52 Tryd.underlying5 Tryd.underlying9
    obtain ⟨ad, m', c', rfl⟩ := row_slice hrow
    gi_wp2
    refine ⟨by simp, .inl ⟨_, _, rfl, run_takeDeferred hK, ?_⟩⟩
    refine ⟨_, results_tmp2 rfl _ _ _, _, rfl, .inl ⟨rfl, rfl⟩, ?_⟩
    exact (B3.out.trans (hB.mono B3.out.size)).trans (belowK_b (w := w) (Nat.le_refl _) W D _ _ (by have := B3.out.size; simp at hD; omega) hK rfl rfl)
  case stop =>
    rintro D c pre W _ _ h _
    exact h.elim
set_option maxRecDepth 100000 in
theorem slice_no (w : World) (p : Option Addr) (x : List UInt8) (i j : Int) (h : Has w (.pointer p) x) (hr : i < 0 ∨ j < i ∨ ((x.length : Nat) : Int) < j) : Calls Tryd.prog 9 #[.agg #[.pointer p], .int .i64 i, .int .i64 j] w (SliceP [] 2 w) := by
  have L := Lib.hid (fun W (hW : Below w.heap.size w W) => len_any W p x (h.below hW))
  clear h
  by_cases h1 : i < 0
  · have h1d : decide (i < 0) = true := decide_eq_true h1
    clear hr
    go_enter Tryd.func9, Tryd.ntmps9
    go_wp2_with fail
    go_ret2
    exact ⟨_, rfl, .inr ⟨rfl, by decide⟩, (Below.refl _ _).alloc (Nat.le_refl _) _⟩
  · by_cases h2 : j < i
    · have h1d : decide (i < 0) = false := decide_eq_false h1
      have h2d : decide (j < i) = true := decide_eq_true h2
      clear hr
      go_enter Tryd.func9, Tryd.ntmps9
      go_wp2_with fail
      go_ret2
      exact ⟨_, rfl, .inr ⟨rfl, by decide⟩, (Below.refl _ _).alloc (Nat.le_refl _) _⟩
    · have h1d : decide (i < 0) = false := decide_eq_false h1
      have h2d : decide (j < i) = false := decide_eq_false h2
      have h3 : ((x.length : Nat) : Int) < j := by omega
      have h3d : decide (((x.length : Nat) : Int) < j) = true := decide_eq_true h3
      clear hr
      generalize x.length = n at *
      go_enter Tryd.func9, Tryd.ntmps9
      go_wp2_with fail
      refine (L.out _ ((Below.refl _ _).alloc (Nat.le_refl _) _)).mono ?_; rintro e w1 ⟨rfl, hb1⟩
      have B1 := Lib.hid (((Below.refl w.heap.size w).alloc (Nat.le_refl _) (.cells #[.pointer p] 26)).trans (hb1.mono (by simp)))
      clear hb1
      go_wp2_with fail
      go_ret2
      exact ⟨_, rfl, .inr ⟨rfl, by decide⟩, B1.out⟩
theorem string_any (w : World) (p : Option Addr) (x : List UInt8) (h : Has w (.pointer p) x) (hx : x.length ≤ 4000) : Calls Tryd.prog 8 #[.agg #[.pointer p]] w fun e w' => e = .returned (.string ⟨x.toArray⟩) ∧ Below w.heap.size w w' := by
  have L := Lib.hid (fun W (hW : Below w.heap.size w W) => len_any W p x (h.below hW))
  have S := Lib.hid (fun W (hW : Below w.heap.size w W) => (show Calls Tryd.prog 9 #[.agg #[.pointer p], .int .i64 0, .int .i64 (x.length : Int)] W (SliceP ((x.drop 0).take (x.length - 0)) 0 W) from slice_yes W p x 0 x.length (h.below hW) hx (Nat.zero_le _) (Nat.le_refl _)))
  rw [show (x.drop 0).take (x.length - 0) = x by simp] at S
  clear h
  generalize x.length = n at *
  go_enter Tryd.func8, Tryd.ntmps8
  go_wp2_with fail
  obtain ⟨w0, hw0⟩ : ∃ w0, w.alloc (.cells #[.pointer p] 26) = w0 := ⟨_, rfl⟩
  have b0 : Below w.heap.size w w0 := by rw [← hw0]; exact (Below.refl _ _).alloc (Nat.le_refl _) _
  have c0 : w0.cell? ⟨w.heap.size, 0, none⟩ = some (.pointer p) := by rw [← hw0]; simp
  rw [hw0]
  clear hw0
  have B0 := Lib.hid b0
  clear b0
  go_region_held3 (fun W' => W'.cell? ⟨w.heap.size, 0, none⟩ = some (.pointer p))
    (first | exact c0 | exact keepCell M1.out c0 | exact keepCell M2.out c0)
    (first
      | (go_at_call 7; (with_reducible refine (L.out _ ?hh1).mono ?_); (exact Below.drew B0.out); rintro e w1 ⟨rfl, l1⟩; have M1 := Lib.hid (show Below w0.heap.size w0 w1 from ((Below.refl w0.heap.size w0).drew).trans l1); have B1 := Lib.hid (B0.out.trans (M1.out.mono B0.out.size)); clear l1)
      | (go_at_call 9; (with_reducible refine (S.out _ ?hh2).mono ?_); (exact B1.out); rintro e w2 ⟨u, rfl, -, l1⟩; have M2 := Lib.hid (show Below w0.heap.size w0 w2 from M1.out.trans (l1.mono M1.out.size)); have B2 := Lib.hid (B1.out.trans (l1.mono B1.out.size)); clear l1))
  go_wp2_with fail
  go_ret
  exact ⟨rfl, B2.out⟩
end Go.Proofs.YtfckhkpheahgaaaDoor.Pc
