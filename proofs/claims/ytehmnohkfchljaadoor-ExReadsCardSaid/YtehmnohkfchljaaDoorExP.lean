/-
  PROVED HERE: the contract of ex.path. Conditions: as each theorem states.
-/
import Derived.Test.YtehmnohkfchljaaDoorExU
import Derived.Test.YtehmnohkfchljaaDoorParB
import Derived.Test.YtehmnohkfchljaaDoorExC
namespace Go.Proofs.YtehmnohkfchljaaDoor.Ex
open Go.RowKit Go.Shelf Spl Go.Proofs.YtehmnohkfchljaaDoor.Seq Dig
attribute [local go_sem] Oper.semAt_some
/-- What path answers. -/
def PaP (q : Option (List Int)) (W : World) (e : Ending) (B : World) : Prop :=
  (match q with
   | none => e = .returned (.tuple #[.slice none 0 0, .iface 26 (.int .i64 3)])
   | some l => ∃ v, e = .returned (.tuple #[v, .nilIface]) ∧ Own B W.heap.size 3 v (i64s l)) ∧ Below W.heap.size W B
/-- Between two rounds. -/
def IL (W : World) (s : ByteArray) (k : Nat) (A : World) : Prop := ∃ (v : Value) (l : List Int), l.length = k ∧ pt ((PS 46 s).drop k) l = pt (PS 46 s) [] ∧ LB W v l A
/-- A round has left by return. -/
def IXL (W : World) (s : ByteArray) (_ : Nat) (A : World) : Prop := (pt (PS 46 s) [] = none ∧ A.cell? ⟨W.heap.size, 0, none⟩ = some (.slice none 0 0) ∧ A.cell? ⟨W.heap.size + 1, 0, none⟩ = some (.iface 26 (.int .i64 3))) ∧ Below W.heap.size W A
theorem il_own (W : World) (s : ByteArray) : OwnFrom (W.heap.size + 6) (IL W s) := fun k A B row h hg hr => by
  obtain ⟨v, l, h1, h2, h4⟩ := h
  refine ⟨v, l, h1, h2, h4.grown hg fun r e => ⟨by have := (hr r e).1; omega, fun e2 => ?_⟩⟩
  obtain ⟨_, o, ho, hc⟩ := hr r e
  rw [(h4.own_cells r e2).2 o ho] at hc
  cases hc
theorem ixl_own (W : World) (s : ByteArray) : OwnFrom (W.heap.size + 6) (IXL W s) := OwnFrom.and (Own.from (fun k A B row h hg hr => by
  obtain ⟨h0, h1, h2⟩ := h
  exact ⟨h0, cell_kept h1 hg hr, cell_kept h2 hg hr⟩) _) (ownFrom_below (Nat.le_refl _) (by omega))
theorem path_results (tmps : Array Value) (w : World) (A B : Addr) (x y : Value) (h6 : tmps.getD 2 undef = .pointer (some A)) (h7 : tmps.getD 3 undef = .pointer (some B)) (c6 : w.cell? A = some x) (c7 : w.cell? B = some y) :
    (results Tryd.f21 tmps).run Tryd.prog w = .ok (.tuple #[x, y]) w := by
  have h6' : tmps[2]?.getD undef = .pointer (some A) := by simpa using h6
  have h7' : tmps[3]?.getD undef = .pointer (some B) := by simpa using h7
  simp only [results, Tryd.f21]
  simp [go_sem, h6', h7', c6, c7]
/-- The cells of the call, and the world behind them. -/
def base (W : World) : World := ((W.alloc (.cells #[.slice none 0 0] 22)).alloc (.cells #[.nilIface] 31)).alloc (.cells #[.slice none 0 0] 22)
theorem base_lb (W : World) (s : ByteArray) : LB W (.slice none 0 0) [] (mkS 46 (base W) s) := by
  have hz : (base W).heap.size = W.heap.size + 3 := by unfold base; simp
  have b5 := Boxed.new W 22 (.slice none 0 0)
  have b6 := Boxed.new (W.alloc (.cells #[.slice none 0 0] 22)) 31 .nilIface
  have b7 := Boxed.new ((W.alloc (.cells #[.slice none 0 0] 22)).alloc (.cells #[.nilIface] 31)) 22 (.slice none 0 0)
  rw [World.size_alloc] at b6
  rw [World.size_alloc, World.size_alloc] at b7
  have hbm : Below (base W).heap.size (base W) (mkS 46 (base W) s) := (((Below.refl _ _).alloc (Nat.le_refl _) _).alloc (by simp) _).alloc (by simp; omega) _
  have hb0 : Below W.heap.size W (base W) := (((Below.refl _ _).alloc (Nat.le_refl _) _).alloc (by simp) _).alloc (by simp; omega) _
  have hg := below_grown hbm
  refine ⟨hb0.trans (hbm.mono (by omega)), by rw [mkS_size]; omega, ?_, ?_, ?_, own_nil _ _ _⟩
  · exact Boxed.kept ((b5.alloc _).alloc _) hg (by simp)
  · exact Boxed.kept (b6.alloc _) hg (by simp)
  · exact Boxed.kept b7 hg (by simp)
theorem bad_end {W A A1 : World} {s : ByteArray} {v : Value} {l : List Int} {k : Nat} (HB : LB W v l A) (hB1 : Below A.heap.size A A1) (hZ : pt (PS 46 s) [] = none) :
    KeepsFrom (W.heap.size + 6) A ((A1.setCell ⟨W.heap.size, 0, none⟩ (.slice none 0 0)).setCell ⟨W.heap.size + 1, 0, none⟩ (.iface 26 (.int .i64 3))) ∧ IXL W s k ((A1.setCell ⟨W.heap.size, 0, none⟩ (.slice none 0 0)).setCell ⟨W.heap.size + 1, 0, none⟩ (.iface 26 (.int .i64 3))) := by
  have HB1 := HB.below hB1
  have g2 := HB1.b0.cell
  have g3 := HB1.b1.cell
  have e2 : ((A1.setCell ⟨W.heap.size, 0, none⟩ (.slice none 0 0)).setCell ⟨W.heap.size + 1, 0, none⟩ (.iface 26 (.int .i64 3))).cell? ⟨W.heap.size, 0, none⟩ = some (.slice none 0 0) := by
    rw [World.cell?_setCell_other _ _ _ _ (by simp)]
    exact World.cell?_setCell_same _ _ _ g2
  have e3 : ((A1.setCell ⟨W.heap.size, 0, none⟩ (.slice none 0 0)).setCell ⟨W.heap.size + 1, 0, none⟩ (.iface 26 (.int .i64 3))).cell? ⟨W.heap.size + 1, 0, none⟩ = some (.iface 26 (.int .i64 3)) :=
    World.cell?_setCell_same _ _ _ (by rw [World.cell?_setCell_other _ _ _ _ (by simp)]; exact g3)
  exact ⟨(HB.st_below hB1).keeps.trans (((KeepsOthers.setCell A1 ⟨W.heap.size, 0, none⟩ (.slice none 0 0)).trans (KeepsOthers.setCell _ ⟨W.heap.size + 1, 0, none⟩ _)).from _), ⟨hZ, e2, e3⟩,
    (HB1.bel.setCell (p := ⟨W.heap.size, 0, none⟩) (Nat.le_refl _) _).setCell (p := ⟨W.heap.size + 1, 0, none⟩) (show W.heap.size ≤ W.heap.size + 1 by omega) _⟩
set_option maxRecDepth 100000 in
set_option maxHeartbeats 2000000 in
theorem path_dash (s : ByteArray) (h : s.toList = [45]) (W : World) : Calls Tryd.prog 21 #[.string s] W (PaP (some []) W) := by
  have h1 : (s.toList == [45]) = true := by rw [h]; rfl
  clear h
  go_enter Tryd.func21, Tryd.ntmps21
  go_wp2_with fail
  refine bodyPost_ret (v := .tuple #[.slice none 0 0, .nilIface]) (by simp [results, Tryd.results21, go_sem]) rfl ⟨⟨_, rfl, own_nil _ _ _⟩, ?_⟩
  exact ((Below.refl _ _).alloc (Nat.le_refl _) _).alloc (by simp) _
set_option maxRecDepth 100000 in
set_option maxHeartbeats 8000000 in
theorem path_any (s : ByteArray) (hs : s.size ≤ 1000) (h : s.toList ≠ [45]) (W : World) : Calls Tryd.prog 21 #[.string s] W (PaP (pt (PS 46 s) []) W) := by
  have h1 : (s.toList == [45]) = false := by rw [beq_eq_false_iff_ne]; exact h
  have HLB := Lib.hid (base_lb W s)
  have CS := Lib.hid (splitSeq_any 46 s (base W))
  have hz : (base W).heap.size = W.heap.size + 3 := by unfold base; simp
  have HM := PS_many 46 s
  rw [hz] at CS
  clear h
  refine (callsIn_wide (n := 6)).1 ?_
  refine callsIn_of_wp_marks Tryd.func21 rfl trivial ?_ rfl
  simp only [Tryd.ntmps21, List.size_toArray, List.length_cons, List.length_nil, Nat.reduceAdd, Nat.reduceSub, Array.replicate_succ, Array.replicate_zero, List.push_toArray, List.append_toArray, List.nil_append, List.cons_append]
  gi_wp2_with (refine ⟨trivial, ?_⟩; gi_at_call 32; refine (callsIn_wide.2 CS.out).mono ?_; rintro e w1 ⟨rfl, rfl⟩)
  -- THE WALK
  have hbx := mkS_boxes 46 (base W) s
  have hw : (mkS 46 (base W) s).heap.size = W.heap.size + 6 := by rw [mkS_size, hz]
  have hG : GS 46 (W.heap.size + 3) s (mkS 46 (base W) s) := by
    rw [hz] at hbx
    exact ⟨hbx.1.cell, hbx.1.frozen, hbx.2.1.cell, hbx.2.2.cell⟩
  clear hbx hz CS
  generalize mkS 46 (base W) s = w0 at *
  refine wpIn_rangeFunc_seq rfl (by decide) (gf := 44) (lb := #[.pointer (some ⟨W.heap.size + 3 + 1, 0, none⟩), .pointer (some ⟨W.heap.size + 3, 0, none⟩), .pointer (some ⟨W.heap.size + 3 + 2, 0, none⟩)]) rfl trivial (enters_of Tryd.func44 (by kernel_rfl) rfl)
    (split1_in 46 5 (by decide) (W.heap.size + 3) s (by omega)) (fun A B ⟨v, e⟩ => by subst e; exact KeepsOthers.setCell _ _ _) (fun h k j hj => (k j hj).trans (h j hj)) (fun A l o o' hl _ _ j hj => World.putObj_heap_other (by omega))
    (fun o o' => hG.kept (fun j hj => by rw [Below.heap_alloc _ _ _ (by simp; omega), Below.heap_alloc _ _ _ (by omega)])) (fun _ => rfl)
    (IL W s) (IXL W s) (hw ▸ il_own W s) (hw ▸ ixl_own W s) (fun k A B ⟨v, l, h1, h2, h4⟩ ⟨x, e⟩ => by subst e; exact ⟨v, l, h1, h2, h4.turn _⟩)
    ⟨_, [], rfl, rfl, HLB.out⟩
    (fun x => { tmps := #[.string s, undef, .pointer (some ⟨W.heap.size, 0, none⟩), .pointer (some ⟨W.heap.size + 1, 0, none⟩), .pointer (some ⟨W.heap.size + 1 + 1, 0, none⟩), .string x, undef, undef, .string s, .bool false, .string s, (.func (.func 44) #[] #[.pointer (some ⟨W.heap.size + 3 + 1, 0, none⟩), .pointer (some ⟨W.heap.size + 3, 0, none⟩), .pointer (some ⟨W.heap.size + 3 + 1 + 1, 0, none⟩)]), .string x, undef, undef, undef, undef, undef, undef, undef, undef, undef, undef, undef, undef, undef, undef, undef], defers := [] }) ?assign ?body ?done ?stop
  case assign =>
    intro l x W K hK
    gi_wp2
    exact hK
  case body =>
    rintro lp k hk A ⟨v, l, hl, hZ, HB⟩
    rw [hw]
    have hps := PS_small 46 s k hk
    have hdr := List.drop_eq_getElem_cons hk
    generalize (PS 46 s)[k] = t at hdr hps ⊢
    rw [hdr] at hZ
    subst hl
    have C : Hid (∀ W, Calls Tryd.prog 30 #[.string t, .int .i64 10] W fun e w' => e = .returned (.tuple #[.int .u64 (pv t 10 : Nat), ev (pe t 10)]) ∧ Below W.heap.size W w') := Lib.hid (parse_yes t 10 (by decide) (by omega))
    have HL := Lib.hid HB
    have hlk : l.length ≤ 1000 := by omega
    have hv := pv_lt t 10
    clear hdr HLB hG h1
    by_cases he : pe t 10 = 0
    · rw [pt_go he] at hZ
      rw [he] at C
      have hev : ev 0 = .nilIface := rfl
      rw [hev] at C
      have HA := Lib.hid (u64_low (pv t 10) hv)
      have hmod : pv t 10 % 4611686018427387904 < 4611686018427387904 := Nat.mod_lt _ (by decide)
      obtain ⟨adr, cap, rfl⟩ := HB.own.len
      rw [i64s_len] at HB HL
      generalize pv t 10 = p at *
      generalize p % 4611686018427387904 = m at *
      have HZ := Lib.hid hZ
      clear hZ he hev
      gi_wp2_with fail
      refine ⟨trivial, ?_⟩
      refine (CallsIn.inRound lp (callsIn_wide.2 (C.out _))).mono ?_
      rintro e A1 ⟨rfl, hB1⟩
      have HB1 := HB.below hB1
      have c4 := HB1.b2.cell
      have f4 := HB1.b2.frozen
      have HB2 := Lib.hid hB1
      have HA1 := HA.out
      have HMA := Lib.hid (HB1.alloc (.cells #[.int .i64 (m : Int)] 3))
      have HSA := Lib.hid ((HL.out.st_below hB1).trans (HB1.st_below ((Below.refl _ _).alloc (Nat.le_refl _) (.cells #[.int .i64 (m : Int)] 3))))
      have L1 : Hid ((i64s l).length + 1 ≤ 1000000000000) := Lib.hid (by rw [i64s_len]; omega)
      have L2 : Hid (((i64s l).length + 1) * 8 ≤ 1000000000000) := Lib.hid (by rw [i64s_len]; omega)
      clear HB1 hB1 HB
      gi_wp2_with (gi_at_builtin; refine own_append1_in rfl _ _ 22 rfl (W.heap.size + 6) 3 (.int .i64 0) 8 Tryd.underlying22 infoInt rfl _ _ rfl HMA.out.own A1.heap.size 1 (.int .i64 (m : Int)) rfl (new_cell _ _ _) rfl L2.out L1.out HMA.out.sz ?_; intro v' w1 ho hg; rw [i64s_snoc] at ho; obtain ⟨x', c', hv'⟩ := ho.len; rw [i64s_len, List.length_append, List.length_singleton] at hv'; subst hv'; have HR := Lib.hid (HMA.out.row hg ho); have c4' := HR.out.1.cell; have f4' := HR.out.1.frozen; clear ho hg c4 f4)
      have h := HSA.out.trans HR.out.2.2
      exact ⟨h.keeps, h.seq, _, l ++ [(m : Int)], by simp, HZ.out, HR.out.2.1⟩
    · rw [pt_bad he] at hZ
      have hev : ev (pe t 10) = .iface 26 (.int .i64 (pe t 10)) := if_neg he
      rw [hev] at C
      generalize pv t 10 = p at *
      generalize pe t 10 = x at *
      have HZ := Lib.hid hZ
      clear hZ he hev
      gi_wp2_with fail
      refine ⟨trivial, ?_⟩
      refine (CallsIn.inRound lp (callsIn_wide.2 (C.out _))).mono ?_
      rintro e A1 ⟨rfl, hB1⟩
      have HB1 := HB.below hB1
      have g2 := HB1.b0.cell
      have g3 := HB1.b1.cell
      have q2 := HB1.b0.frozen
      have q3 := HB1.b1.frozen
      have HB2 := Lib.hid hB1
      clear HB1 hB1 HB
      gi_wp2
      exact bad_end HL.out HB2.out HZ.out.symm
  case done =>
    rintro D A hD ⟨v, l, hl, hZ, HB⟩ hK
    rw [List.drop_length] at hZ
    clear hl
    have hZ2 : Hid (pt (PS 46 s) [] = some l) := Lib.hid hZ.symm
    clear hZ
    obtain ⟨ad, cap, rfl⟩ := HB.own.len
    rw [i64s_len] at HB
    have c4 := HB.b2.cell
    have g2 := HB.b0.cell
    have g3 := HB.b1.cell
    have q2 := HB.b0.frozen
    have q3 := HB.b1.frozen
    gi_wp2
    obtain ⟨v, hv⟩ : ∃ v, Value.slice ad l.length cap = v := ⟨_, rfl⟩
    rw [hv] at HB ⊢
    have hK' := ((KeepsOthers.setCell A ⟨W.heap.size, 0, none⟩ v).trans (KeepsOthers.setCell _ ⟨W.heap.size + 1, 0, none⟩ .nilIface)).same D _ hK rfl
    have q6 : ((A.setCell ⟨W.heap.size, 0, none⟩ v).setCell ⟨W.heap.size + 1, 0, none⟩ .nilIface).cell? ⟨W.heap.size, 0, none⟩ = some v := by
      rw [World.cell?_setCell_other _ _ _ _ (by simp)]
      exact World.cell?_setCell_same _ _ _ g2
    have q7 : ((A.setCell ⟨W.heap.size, 0, none⟩ v).setCell ⟨W.heap.size + 1, 0, none⟩ .nilIface).cell? ⟨W.heap.size + 1, 0, none⟩ = some .nilIface :=
      World.cell?_setCell_same _ _ _ (by rw [World.cell?_setCell_other _ _ _ _ (by simp)]; exact g3)
    have hBW2 := (HB.bel.setCell (p := ⟨W.heap.size, 0, none⟩) (Nat.le_refl _) v).setCell (p := ⟨W.heap.size + 1, 0, none⟩) (show W.heap.size ≤ W.heap.size + 1 by omega) .nilIface
    have ho2 : Own ((A.setCell ⟨W.heap.size, 0, none⟩ v).setCell ⟨W.heap.size + 1, 0, none⟩ .nilIface) (W.heap.size + 6) 3 v (i64s l) := (HB.own.setBelow (a := ⟨W.heap.size, 0, none⟩) (show W.heap.size < W.heap.size + 6 by omega) v).setBelow (a := ⟨W.heap.size + 1, 0, none⟩) (show W.heap.size + 1 < W.heap.size + 6 by omega) .nilIface
    have hoc : ∀ r, v.ownBlock = some r → ∀ o, ((A.setCell ⟨W.heap.size, 0, none⟩ v).setCell ⟨W.heap.size + 1, 0, none⟩ .nilIface).heap[r]? = some o → o.isCells = true := fun r e o ho => by
      rcases ho2.2 with ⟨rfl, _⟩ | ⟨g, cap, cur, rfl, hb, hg, _⟩
      · cases e
      · cases e
        rw [hg] at ho; cases ho; rfl
    generalize (A.setCell ⟨W.heap.size, 0, none⟩ v).setCell ⟨W.heap.size + 1, 0, none⟩ .nilIface = A2 at *
    refine ⟨by simp, .inl ⟨_, _, rfl, run_takeDeferred hK', ?_⟩⟩
    have r6 := cell_kept q6 (grownBy_putObj' _ D (.deferred none)) (fun r e => by cases e; exact ⟨_, hK', rfl⟩)
    have r7 := cell_kept q7 (grownBy_putObj' _ D (.deferred none)) (fun r e => by cases e; exact ⟨_, hK', rfl⟩)
    refine ⟨_, path_results _ _ ⟨W.heap.size, 0, none⟩ ⟨W.heap.size + 1, 0, none⟩ _ _ rfl rfl r6 r7, ?_, hBW2.trans (belowK_b (w := W) (Nat.le_refl _) A2 D _ _ (by omega) hK' rfl rfl)⟩
    rw [hZ2.out]
    exact ⟨v, rfl, (ho2.base (by omega)).keep (grownBy_putObj' _ D (.deferred none)) (.inr (fun e => by have := hoc D e _ hK'; cases this))⟩
  case stop =>
    rintro D k A hD hk ⟨⟨h0, c0, c1⟩, hB⟩ hK
    gi_wp2
    refine ⟨by simp, .inl ⟨_, _, rfl, run_takeDeferred hK, ?_⟩⟩
    have r6 := cell_kept c0 (grownBy_putObj' _ D (.deferred none)) (fun r e => by cases e; exact ⟨_, hK, rfl⟩)
    have r7 := cell_kept c1 (grownBy_putObj' _ D (.deferred none)) (fun r e => by cases e; exact ⟨_, hK, rfl⟩)
    refine ⟨_, path_results _ _ ⟨W.heap.size, 0, none⟩ ⟨W.heap.size + 1, 0, none⟩ _ _ rfl rfl r6 r7, ?_, hB.trans (belowK_b (w := W) (Nat.le_refl _) A D _ _ (by omega) hK rfl rfl)⟩
    rw [h0]
end Go.Proofs.YtehmnohkfchljaaDoor.Ex
