/-
  PROVED HERE: the contract of the document's ExprText. Conditions: as each theorem states.
-/
import Derived.Test.YtofmheeiplagjaaGreatDoorExpM
import Derived.Test.YtofmheeiplagjaaGreatDoorDigD
namespace Go.Proofs.YtofmheeiplagjaaGreatDoor.Tm
open Go.RowKit Go.Proofs.YtofmheeiplagjaaGreatDoor.Lex Go.Proofs.YtofmheeiplagjaaGreatDoor.Dig
theorem docTxPrint_any (n : Int) (W : World) : Calls Tryz.prog 38 #[.int .u64 (IntKind.u64.wrap n), .int .i64 10, .int .i64 0] W fun e w' => e = .returned (.tuple #[.string (numTxt n), .int .i64 0]) ∧ Below W.heap.size W w' := by
  rw [wrap_u64]
  exact docPrint_yes _ 10 0 (mod_lt64 n) (by omega) (by omega) W
section
variable {W : World}
set_option maxRecDepth 100000 in
theorem docText_num (k : Nat) (n : Int) (v : Value) (h : ExAt W (.num k n) v) : Calls Tryz.prog 14 #[v] W fun e w' => e = .returned (.string (textF (.num k n))) ∧ Below W.heap.size W w' := by
  obtain ⟨g, rfl, hg⟩ := h
  have c0 : W.cell? ⟨g, 0, none⟩ = some (.int .i64 1) := box_cells (cs := [_, _, _, _, _, _, _]) hg 0 (by simp)
  have c2 : W.cell? ⟨g, 2, none⟩ = some (.int .i64 n) := box_cells (cs := [_, _, _, _, _, _, _]) hg 2 (by simp)
  clear hg
  go_enter Tryz.func14, Tryz.ntmps14
  go_wp2_with fail
  refine (docTxPrint_any n W).mono ?_; rintro e w1 ⟨rfl, hb⟩
  have HB := Lib.hid hb
  clear hb
  go_wp2_with fail
  go_ret
  exact ⟨rfl, HB.out⟩
set_option maxRecDepth 100000 in
theorem docText_nam (k : Nat) (s : ByteArray) (v : Value) (h : ExAt W (.nam k s) v) : Calls Tryz.prog 14 #[v] W fun e w' => e = .returned (.string (textF (.nam k s))) ∧ Below W.heap.size W w' := by
  obtain ⟨g, rfl, hg⟩ := h
  have c0 : W.cell? ⟨g, 0, none⟩ = some (.int .i64 2) := box_cells (cs := [_, _, _, _, _, _, _]) hg 0 (by simp)
  have c3 : W.cell? ⟨g, 3, none⟩ = some (.string s) := box_cells (cs := [_, _, _, _, _, _, _]) hg 3 (by simp)
  clear hg
  go_enter Tryz.func14, Tryz.ntmps14
  go_wp2_with fail
  go_ret
  exact ⟨rfl, Below.refl _ _⟩
def DxC (x : Ex) : Prop := ∀ (v : Value) (W : World), ExOk x → leaves x ≤ 4000 → ExAt W x v → Calls Tryz.prog 14 #[v] W fun e w' => e = .returned (.string (textF x)) ∧ Below W.heap.size W w'
set_option maxRecDepth 100000 in
theorem docPart_any (x : Ex) (H : DxC x) (m : Nat) (v : Value) (hx : ExOk x) (hl : leaves x ≤ 4000) (h : ExAt W x v) : Calls Tryz.prog 39 #[v, .int .i64 (m : Nat)] W fun e w' => e = .returned (.string (inB (decide (x.isBin = true ∧ hold x.op < m)) (textF x))) ∧ Below W.heap.size W w' := by
  have HH := Lib.hid (hold_any x.op)
  have HT := Lib.hid (H v W hx hl h)
  have hs := text_size x hx
  have cb := code_bin x
  obtain ⟨t, ht⟩ : ∃ t, textF x = t := ⟨_, rfl⟩
  rw [ht] at HT hs
  rw [ht]
  have s1 : ¬ (9223372036854775807 < 1 + t.size) := by omega
  have s2 : ¬ (9223372036854775807 < 1 + t.size + 1) := by omega
  obtain ⟨g, rfl, c0, c4⟩ := ex_head h
  generalize exCode x = C at *
  clear h hx hl ht H hs
  cases hb : x.isBin with
  | false =>
    rw [hb] at cb
    rw [decide_eq_false (show ¬ (false = true ∧ hold x.op < m) from fun q => by cases q.1)]
    go_enter Tryz.func39, Tryz.ntmps39
    go_wp2_with fail
    refine (HT.out).mono ?_; rintro e w1 ⟨rfl, hb⟩
    have HB := Lib.hid hb
    clear hb
    go_wp2_with fail
    go_ret
    exact ⟨rfl, HB.out⟩
  | true =>
    rw [hb] at cb
    by_cases hm : hold x.op < m
    · rw [decide_eq_true (show true = true ∧ hold x.op < m from ⟨rfl, hm⟩)]
      have d : (hold x.op : Int) < (m : Int) := by omega
      go_enter Tryz.func39, Tryz.ntmps39
      go_wp2_with fail
      refine (HH.out _).mono ?_; rintro e w1 ⟨rfl, rfl⟩
      go_wp2_with fail
      refine (HT.out).mono ?_; rintro e w1 ⟨rfl, hb⟩
      have HB := Lib.hid hb
      clear hb
      go_wp2_with fail
      go_ret
      exact ⟨rfl, HB.out⟩
    · rw [decide_eq_false (show ¬ (true = true ∧ hold x.op < m) from fun q => hm q.2)]
      have d : ¬ (hold x.op : Int) < (m : Int) := by omega
      go_enter Tryz.func39, Tryz.ntmps39
      go_wp2_with fail
      refine (HH.out _).mono ?_; rintro e w1 ⟨rfl, rfl⟩
      go_wp2_with fail
      refine (HT.out).mono ?_; rintro e w1 ⟨rfl, hb⟩
      have HB := Lib.hid hb
      clear hb
      go_wp2_with fail
      go_ret
      exact ⟨rfl, HB.out⟩
set_option maxRecDepth 100000 in
set_option maxHeartbeats 4000000 in
theorem docText_bin (k : Nat) (op : ByteArray) (l r : Ex) (Hl : DxC l) (Hr : DxC r) : DxC (.bin k op l r) := by
  rintro v W hx hlv h
  have hsz := text_size _ hx
  obtain ⟨_, ho, okl, okr⟩ := hx
  obtain ⟨g, a, b, rfl, hg, xl, xr⟩ := h
  obtain ⟨pa, rfl⟩ := ptr_of xl
  obtain ⟨pb, rfl⟩ := ptr_of xr
  have hh3 := hold_le op
  have hll : leaves l ≤ 4000 := by have : leaves l + leaves r ≤ 4000 := hlv; omega
  have hlr : leaves r ≤ 4000 := by have : leaves l + leaves r ≤ 4000 := hlv; omega
  have HO := Lib.hid (hold_any op)
  have PL := Lib.hid (fun W2 (hb : Below W.heap.size W W2) => docPart_any (W := W2) l Hl (hold op) _ okl hll (ExAt.below hb l _ xl))
  have PR := Lib.hid (fun W2 (hb : Below W.heap.size W W2) => docPart_any (W := W2) r Hr (hold op + 1) _ okr hlr (ExAt.below hb r _ xr))
  have hsum : leaves l + leaves r ≤ 4000 := hlv
  have e : textF (.bin k op l r) = (((inB (decide (l.isBin = true ∧ hold l.op < hold op)) (textF l) ++ ⟨#[32]⟩) ++ op) ++ ⟨#[32]⟩) ++ inB (decide (r.isBin = true ∧ hold r.op < hold op + 1)) (textF r) := rfl
  have hsz2 : (textF (.bin k op l r)).size ≤ 5000000 := by
    have : (textF (.bin k op l r)).size + 9 ≤ 1010 * (leaves l + leaves r) := hsz
    omega
  rw [e] at hsz2 ⊢
  obtain ⟨K1, hK⟩ : ∃ K, hold op + 1 = K := ⟨_, rfl⟩
  have hK1 : (hold op : Int) + 1 = (K1 : Int) := by omega
  have hKb : hold op ≤ 3 := hh3
  have hKw : IntKind.i64.wrap (K1 : Int) = (K1 : Int) := by simp [IntKind.wrap, IntKind.signed, IntKind.bits]; omega
  rw [hK] at PR
  generalize inB (decide (l.isBin = true ∧ hold l.op < hold op)) (textF l) = sl at *
  rw [hK] at hsz2 ⊢
  generalize inB (decide (r.isBin = true ∧ hold r.op < K1)) (textF r) = sr at *
  generalize hold op = K at *
  rw [ByteArray.size_append, ByteArray.size_append, ByteArray.size_append, ByteArray.size_append] at hsz2
  have z1 : ByteArray.size ⟨#[32]⟩ = 1 := rfl
  rw [z1] at hsz2
  have s1 : ¬ (9223372036854775807 < sl.size + 1) := by omega
  have s2 : ¬ (9223372036854775807 < sl.size + 1 + op.size) := by omega
  have s3 : ¬ (9223372036854775807 < sl.size + 1 + op.size + 1) := by omega
  have s4 : ¬ (9223372036854775807 < sl.size + 1 + op.size + 1 + sr.size) := by omega
  have c0 : W.cell? ⟨g, 0, none⟩ = some (.int .i64 3) := box_cells (cs := [_, _, _, _, _, _, _]) hg 0 (by simp)
  have c4 : W.cell? ⟨g, 4, none⟩ = some (.string op) := box_cells (cs := [_, _, _, _, _, _, _]) hg 4 (by simp)
  have c5 : W.cell? ⟨g, 5, none⟩ = some (.pointer (some ⟨pa, 0, none⟩)) := box_cells (cs := [_, _, _, _, _, _, _]) hg 5 (by simp)
  have c6 : W.cell? ⟨g, 6, none⟩ = some (.pointer (some ⟨pb, 0, none⟩)) := box_cells (cs := [_, _, _, _, _, _, _]) hg 6 (by simp)
  clear Hl Hr xl xr hg okl okr hll hlr hsz hsum hsz2 e hK ho hlv hh3 z1
  go_enter Tryz.func14, Tryz.ntmps14
  go_upto_region 10 with fail
  refine Hld.run_region (fun w' => Below W.heap.size W w') 31 (by kernel_rfl) ?_
  have SH : Below W.heap.size W W.drew := (Below.refl _ _).drew
  refine Hld.Run.take (i := 0) (d := 2) (v := .func (Fn.func 39) #[] #[]) rfl (by kernel_rfl) (by kernel_rfl) (by kernel_rfl) (by kernel_rfl) (by kernel_rfl) (by kernel_rfl) (fun _ _ _ h => h) (Or.inl ⟨by rfl, ?_⟩) SH ?_
  · intro w' hSw
    have c4 := keepCell hSw c4
    have c5 := keepCell hSw c5
    have c6 := keepCell hSw c6
    go_simp
  try simp only [Act.put]
  refine Hld.Run.take (i := 1) (d := 2) (v := .pointer (some ⟨g, 0, none⟩)) rfl (by kernel_rfl) (by kernel_rfl) (by kernel_rfl) (by kernel_rfl) (by kernel_rfl) (by kernel_rfl) (fun _ _ _ h => h) (Or.inl ⟨by rfl, ?_⟩) SH ?_
  · intro w' hSw
    have c4 := keepCell hSw c4
    have c5 := keepCell hSw c5
    have c6 := keepCell hSw c6
    go_simp
  try simp only [Act.put]
  refine Hld.Run.take (i := 2) (d := 2) (v := .pointer (some ⟨g, 0, none⟩)) rfl (by kernel_rfl) (by kernel_rfl) (by kernel_rfl) (by kernel_rfl) (by kernel_rfl) (by kernel_rfl) (fun _ _ _ h => h) (Or.inl ⟨by rfl, ?_⟩) SH ?_
  · intro w' hSw
    have c4 := keepCell hSw c4
    have c5 := keepCell hSw c5
    have c6 := keepCell hSw c6
    go_simp
  try simp only [Act.put]
  refine Hld.Run.take (i := 3) (d := 2) (v := .pointer (some ⟨g, 5, none⟩)) rfl (by kernel_rfl) (by kernel_rfl) (by kernel_rfl) (by kernel_rfl) (by kernel_rfl) (by kernel_rfl) (fun _ _ _ h => h) (Or.inl ⟨by rfl, ?_⟩) SH ?_
  · intro w' hSw
    have c4 := keepCell hSw c4
    have c5 := keepCell hSw c5
    have c6 := keepCell hSw c6
    go_simp
  try simp only [Act.put]
  refine Hld.Run.take (i := 4) (d := 2) (v := .pointer (some ⟨pa, 0, none⟩)) rfl (by kernel_rfl) (by kernel_rfl) (by kernel_rfl) (by kernel_rfl) (by kernel_rfl) (by kernel_rfl) (fun _ _ _ h => h) (Or.inl ⟨by rfl, ?_⟩) SH ?_
  · intro w' hSw
    have c4 := keepCell hSw c4
    have c5 := keepCell hSw c5
    have c6 := keepCell hSw c6
    go_simp
  try simp only [Act.put]
  refine Hld.Run.take (i := 5) (d := 2) (v := .pointer (some ⟨g, 0, none⟩)) rfl (by kernel_rfl) (by kernel_rfl) (by kernel_rfl) (by kernel_rfl) (by kernel_rfl) (by kernel_rfl) (fun _ _ _ h => h) (Or.inl ⟨by rfl, ?_⟩) SH ?_
  · intro w' hSw
    have c4 := keepCell hSw c4
    have c5 := keepCell hSw c5
    have c6 := keepCell hSw c6
    go_simp
  try simp only [Act.put]
  refine Hld.Run.take (i := 6) (d := 2) (v := .pointer (some ⟨g, 0, none⟩)) rfl (by kernel_rfl) (by kernel_rfl) (by kernel_rfl) (by kernel_rfl) (by kernel_rfl) (by kernel_rfl) (fun _ _ _ h => h) (Or.inl ⟨by rfl, ?_⟩) SH ?_
  · intro w' hSw
    have c4 := keepCell hSw c4
    have c5 := keepCell hSw c5
    have c6 := keepCell hSw c6
    go_simp
  try simp only [Act.put]
  refine Hld.Run.take (i := 7) (d := 2) (v := .pointer (some ⟨g, 4, none⟩)) rfl (by kernel_rfl) (by kernel_rfl) (by kernel_rfl) (by kernel_rfl) (by kernel_rfl) (by kernel_rfl) (fun _ _ _ h => h) (Or.inl ⟨by rfl, ?_⟩) SH ?_
  · intro w' hSw
    have c4 := keepCell hSw c4
    have c5 := keepCell hSw c5
    have c6 := keepCell hSw c6
    go_simp
  try simp only [Act.put]
  refine Hld.Run.take (i := 8) (d := 2) (v := .string op) rfl (by kernel_rfl) (by kernel_rfl) (by kernel_rfl) (by kernel_rfl) (by kernel_rfl) (by kernel_rfl) (fun _ _ _ h => h) (Or.inl ⟨by rfl, ?_⟩) SH ?_
  · intro w' hSw
    have c4 := keepCell hSw c4
    have c5 := keepCell hSw c5
    have c6 := keepCell hSw c6
    go_simp
  try simp only [Act.put]
  refine Hld.Run.take (i := 12) (d := 2) (v := .pointer (some ⟨g, 0, none⟩)) rfl (by kernel_rfl) (by kernel_rfl) (by kernel_rfl) (by kernel_rfl) (by kernel_rfl) (by kernel_rfl) (fun _ _ _ h => h) (Or.inl ⟨by rfl, ?_⟩) SH ?_
  · intro w' hSw
    have c4 := keepCell hSw c4
    have c5 := keepCell hSw c5
    have c6 := keepCell hSw c6
    go_simp
  try simp only [Act.put]
  refine Hld.Run.take (i := 13) (d := 2) (v := .pointer (some ⟨g, 0, none⟩)) rfl (by kernel_rfl) (by kernel_rfl) (by kernel_rfl) (by kernel_rfl) (by kernel_rfl) (by kernel_rfl) (fun _ _ _ h => h) (Or.inl ⟨by rfl, ?_⟩) SH ?_
  · intro w' hSw
    have c4 := keepCell hSw c4
    have c5 := keepCell hSw c5
    have c6 := keepCell hSw c6
    go_simp
  try simp only [Act.put]
  refine Hld.Run.take (i := 14) (d := 2) (v := .pointer (some ⟨g, 4, none⟩)) rfl (by kernel_rfl) (by kernel_rfl) (by kernel_rfl) (by kernel_rfl) (by kernel_rfl) (by kernel_rfl) (fun _ _ _ h => h) (Or.inl ⟨by rfl, ?_⟩) SH ?_
  · intro w' hSw
    have c4 := keepCell hSw c4
    have c5 := keepCell hSw c5
    have c6 := keepCell hSw c6
    go_simp
  try simp only [Act.put]
  refine Hld.Run.take (i := 15) (d := 2) (v := .string op) rfl (by kernel_rfl) (by kernel_rfl) (by kernel_rfl) (by kernel_rfl) (by kernel_rfl) (by kernel_rfl) (fun _ _ _ h => h) (Or.inl ⟨by rfl, ?_⟩) SH ?_
  · intro w' hSw
    have c4 := keepCell hSw c4
    have c5 := keepCell hSw c5
    have c6 := keepCell hSw c6
    go_simp
  try simp only [Act.put]
  refine Hld.Run.take (i := 18) (d := 2) (v := .func (Fn.func 39) #[] #[]) rfl (by kernel_rfl) (by kernel_rfl) (by kernel_rfl) (by kernel_rfl) (by kernel_rfl) (by kernel_rfl) (fun _ _ _ h => h) (Or.inl ⟨by rfl, ?_⟩) SH ?_
  · intro w' hSw
    have c4 := keepCell hSw c4
    have c5 := keepCell hSw c5
    have c6 := keepCell hSw c6
    go_simp
  try simp only [Act.put]
  refine Hld.Run.take (i := 19) (d := 2) (v := .pointer (some ⟨g, 0, none⟩)) rfl (by kernel_rfl) (by kernel_rfl) (by kernel_rfl) (by kernel_rfl) (by kernel_rfl) (by kernel_rfl) (fun _ _ _ h => h) (Or.inl ⟨by rfl, ?_⟩) SH ?_
  · intro w' hSw
    have c4 := keepCell hSw c4
    have c5 := keepCell hSw c5
    have c6 := keepCell hSw c6
    go_simp
  try simp only [Act.put]
  refine Hld.Run.take (i := 20) (d := 2) (v := .pointer (some ⟨g, 0, none⟩)) rfl (by kernel_rfl) (by kernel_rfl) (by kernel_rfl) (by kernel_rfl) (by kernel_rfl) (by kernel_rfl) (fun _ _ _ h => h) (Or.inl ⟨by rfl, ?_⟩) SH ?_
  · intro w' hSw
    have c4 := keepCell hSw c4
    have c5 := keepCell hSw c5
    have c6 := keepCell hSw c6
    go_simp
  try simp only [Act.put]
  refine Hld.Run.take (i := 21) (d := 2) (v := .pointer (some ⟨g, 6, none⟩)) rfl (by kernel_rfl) (by kernel_rfl) (by kernel_rfl) (by kernel_rfl) (by kernel_rfl) (by kernel_rfl) (fun _ _ _ h => h) (Or.inl ⟨by rfl, ?_⟩) SH ?_
  · intro w' hSw
    have c4 := keepCell hSw c4
    have c5 := keepCell hSw c5
    have c6 := keepCell hSw c6
    go_simp
  try simp only [Act.put]
  refine Hld.Run.take (i := 22) (d := 2) (v := .pointer (some ⟨pb, 0, none⟩)) rfl (by kernel_rfl) (by kernel_rfl) (by kernel_rfl) (by kernel_rfl) (by kernel_rfl) (by kernel_rfl) (fun _ _ _ h => h) (Or.inl ⟨by rfl, ?_⟩) SH ?_
  · intro w' hSw
    have c4 := keepCell hSw c4
    have c5 := keepCell hSw c5
    have c6 := keepCell hSw c6
    go_simp
  try simp only [Act.put]
  refine Hld.Run.take (i := 23) (d := 2) (v := .pointer (some ⟨g, 0, none⟩)) rfl (by kernel_rfl) (by kernel_rfl) (by kernel_rfl) (by kernel_rfl) (by kernel_rfl) (by kernel_rfl) (fun _ _ _ h => h) (Or.inl ⟨by rfl, ?_⟩) SH ?_
  · intro w' hSw
    have c4 := keepCell hSw c4
    have c5 := keepCell hSw c5
    have c6 := keepCell hSw c6
    go_simp
  try simp only [Act.put]
  refine Hld.Run.take (i := 24) (d := 2) (v := .pointer (some ⟨g, 0, none⟩)) rfl (by kernel_rfl) (by kernel_rfl) (by kernel_rfl) (by kernel_rfl) (by kernel_rfl) (by kernel_rfl) (fun _ _ _ h => h) (Or.inl ⟨by rfl, ?_⟩) SH ?_
  · intro w' hSw
    have c4 := keepCell hSw c4
    have c5 := keepCell hSw c5
    have c6 := keepCell hSw c6
    go_simp
  try simp only [Act.put]
  refine Hld.Run.take (i := 25) (d := 2) (v := .pointer (some ⟨g, 4, none⟩)) rfl (by kernel_rfl) (by kernel_rfl) (by kernel_rfl) (by kernel_rfl) (by kernel_rfl) (by kernel_rfl) (fun _ _ _ h => h) (Or.inl ⟨by rfl, ?_⟩) SH ?_
  · intro w' hSw
    have c4 := keepCell hSw c4
    have c5 := keepCell hSw c5
    have c6 := keepCell hSw c6
    go_simp
  try simp only [Act.put]
  refine Hld.Run.take (i := 26) (d := 2) (v := .string op) rfl (by kernel_rfl) (by kernel_rfl) (by kernel_rfl) (by kernel_rfl) (by kernel_rfl) (by kernel_rfl) (fun _ _ _ h => h) (Or.inl ⟨by rfl, ?_⟩) SH ?_
  · intro w' hSw
    have c4 := keepCell hSw c4
    have c5 := keepCell hSw c5
    have c6 := keepCell hSw c6
    go_simp
  try simp only [Act.put]
  refine Hld.Run.one (i := 9) (by kernel_rfl) rfl (fun C9 hC9 => ?_)
  go_simp
  go_at_call 40
  refine (HO.out _).mono ?_; rintro e w1 ⟨rfl, rfl⟩
  refine hC9 _ _ ⟨fun _ => SH, ?_⟩
  clear hC9 C9
  try simp only [Act.put]
  refine Hld.Run.one (i := 10) (by kernel_rfl) rfl (fun C10 hC10 => ?_)
  go_simp
  go_at_call 39
  refine (PL.out _ SH).mono ?_; rintro e w2 ⟨rfl, b2⟩
  refine hC10 _ _ ⟨fun _ => SH.trans (b2.mono SH.size), ?_⟩
  replace SH := SH.trans (b2.mono SH.size)
  clear b2
  clear hC10 C10
  try simp only [Act.put]
  refine Hld.Run.take (i := 11) (d := 2) (v := .string (sl ++ ⟨#[32]⟩)) rfl (by kernel_rfl) (by kernel_rfl) (by kernel_rfl) (by kernel_rfl) (by kernel_rfl) (by kernel_rfl) (fun _ _ _ h => h) (Or.inl ⟨by rfl, ?_⟩) SH ?_
  · intro w' hSw
    have c4 := keepCell hSw c4
    have c5 := keepCell hSw c5
    have c6 := keepCell hSw c6
    go_simp
  try simp only [Act.put]
  refine Hld.Run.take (i := 16) (d := 2) (v := .string ((sl ++ ⟨#[32]⟩) ++ op)) rfl (by kernel_rfl) (by kernel_rfl) (by kernel_rfl) (by kernel_rfl) (by kernel_rfl) (by kernel_rfl) (fun _ _ _ h => h) (Or.inl ⟨by rfl, ?_⟩) SH ?_
  · intro w' hSw
    have c4 := keepCell hSw c4
    have c5 := keepCell hSw c5
    have c6 := keepCell hSw c6
    go_simp
  try simp only [Act.put]
  refine Hld.Run.take (i := 17) (d := 2) (v := .string (((sl ++ ⟨#[32]⟩) ++ op) ++ ⟨#[32]⟩)) rfl (by kernel_rfl) (by kernel_rfl) (by kernel_rfl) (by kernel_rfl) (by kernel_rfl) (by kernel_rfl) (fun _ _ _ h => h) (Or.inl ⟨by rfl, ?_⟩) SH ?_
  · intro w' hSw
    have c4 := keepCell hSw c4
    have c5 := keepCell hSw c5
    have c6 := keepCell hSw c6
    go_simp
  try simp only [Act.put]
  refine Hld.Run.one (i := 27) (by kernel_rfl) rfl (fun C27 hC27 => ?_)
  go_simp
  go_at_call 40
  refine (HO.out _).mono ?_; rintro e w3 ⟨rfl, rfl⟩
  refine hC27 _ _ ⟨fun _ => SH, ?_⟩
  clear hC27 C27
  try simp only [Act.put]
  refine Hld.Run.take (i := 28) (d := 2) (v := .int .i64 (K1 : Nat)) rfl (by kernel_rfl) (by kernel_rfl) (by kernel_rfl) (by kernel_rfl) (by kernel_rfl) (by kernel_rfl) (fun _ _ _ h => h) (Or.inl ⟨by rfl, ?_⟩) SH ?_
  · intro w' hSw
    have c4 := keepCell hSw c4
    have c5 := keepCell hSw c5
    have c6 := keepCell hSw c6
    go_simp
  try simp only [Act.put]
  refine Hld.Run.one (i := 29) (by kernel_rfl) rfl (fun C29 hC29 => ?_)
  go_simp
  go_at_call 39
  refine (PR.out _ SH).mono ?_; rintro e w4 ⟨rfl, b4⟩
  refine hC29 _ _ ⟨fun _ => SH.trans (b4.mono SH.size), ?_⟩
  replace SH := SH.trans (b4.mono SH.size)
  clear b4
  clear hC29 C29
  try simp only [Act.put]
  refine Hld.Run.take (i := 30) (d := 2) (v := .string ((((sl ++ ⟨#[32]⟩) ++ op) ++ ⟨#[32]⟩) ++ sr)) rfl (by kernel_rfl) (by kernel_rfl) (by kernel_rfl) (by kernel_rfl) (by kernel_rfl) (by kernel_rfl) (fun _ _ _ h => h) (Or.inl ⟨by rfl, ?_⟩) SH ?_
  · intro w' hSw
    have c4 := keepCell hSw c4
    have c5 := keepCell hSw c5
    have c6 := keepCell hSw c6
    go_simp
  try simp only [Act.put]
  refine Hld.Run.one (i := 31) (by kernel_rfl) rfl (fun C3 hC3 => ?_)
  go_simp
  refine hC3 _ _ ⟨fun h => absurd rfl h, ?_⟩
  refine Hld.Run.done (by kernel_rfl) ?_ _
  clear hC3 C3
  go_wp2_with fail
  go_ret
  exact ⟨rfl, SH⟩
theorem docText_any : ∀ x, DxC x := by
  intro x
  induction x with
  | num k n => intro v W _ _ h; exact docText_num k n v h
  | nam k s => intro v W _ _ h; exact docText_nam k s v h
  | bin k op l r ihl ihr => exact docText_bin k op l r ihl ihr
end
end Go.Proofs.YtofmheeiplagjaaGreatDoor.Tm
