/-
  PROVED HERE: the contract of the program's Check. Conditions: as each theorem states.
-/
import Derived.Test.YtpnjlmpamincoaaDoorTfH
namespace Go.Proofs.YtpnjlmpamincoaaDoor.Tm
open Go.RowKit Go.Proofs.YtpnjlmpamincoaaDoor.Lex Go.Proofs.YtpnjlmpamincoaaDoor.Dig
/-- The memory: the box of the error, the map of types behind it. -/
structure CB (W : World) (n : Nat) (T : ByteArray → Bool) (w : World) : Prop where
  bl : Below W.heap.size W w
  mn : MN w (W.heap.size + 1) n T
  er : w.heap[W.heap.size]? = some (.cells #[.nilIface] 32)
theorem CB.below {W w w' : World} {n : Nat} {T : ByteArray → Bool} (h : CB W n T w) (hb : Below w.heap.size w w') : CB W n T w' :=
  ⟨h.bl.trans (hb.mono h.bl.size), h.mn.below hb, (hb.block _ (Array.getElem?_eq_some_iff.1 h.er).1).trans h.er⟩
theorem CB.flt {W w : World} {n : Nat} {T : ByteArray → Bool} (h : CB W n T w) : w.cell? ⟨W.heap.size, 0, none⟩ = some .nilIface ∧ ∀ j, w.frozen? ⟨W.heap.size, j, none⟩ = false := by
  refine ⟨by unfold World.cell?; rw [h.er]; rfl, fun j => ?_⟩
  unfold World.frozen?
  rw [h.er]
  rfl
theorem CB.grown {W w w' : World} {n n' : Nat} {T T' : ByteArray → Bool} (h : CB W n T w) (hg : w.grownBy w' (some (W.heap.size + 1))) (hT : MN w' (W.heap.size + 1) n' T') : CB W n' T' w' :=
  ⟨h.bl.trans ⟨hg.os, hg.tape, hg.output, hg.size, fun k hk => hg.block k (Nat.lt_of_lt_of_le hk h.bl.size) (fun e => by injection e; omega)⟩, hT, (hg.block _ (Array.getElem?_eq_some_iff.1 h.er).1 (fun e => by injection e; omega)).trans h.er⟩
def CkP (W : World) (f : Int × Int) (e : Ending) (w' : World) : Prop := ∃ v, e = .returned v ∧ Err.ErrIs w' v f.1 f.2 ∧ Below W.heap.size W w'
def CkR (W : World) (l : List Ty) (i : Value) (wr : World) : Prop := ∃ (k : Nat) (T : ByteArray → Bool), i = .int .i64 k ∧ k ≤ l.length ∧ Hid (CB W k T wr) ∧ Hid (checkF l (fun _ => false) = checkF (l.drop k) T)
theorem door_thrown {W w : World} {f : Int × Int} {b : Nat} (hb : Below W.heap.size W w) (he : w.heap[W.heap.size]? = some (.cells #[.nilIface] 32)) (c0 : w.cell? ⟨b, 0, none⟩ = some (.int .i64 f.1)) (c1 : w.cell? ⟨b, 1, none⟩ = some (.int .i64 f.2)) :
    Err.ErrIs ((w.alloc (.cells #[.iface 73 (.pointer (some ⟨b, 0, none⟩))] 53)).setCell ⟨W.heap.size, 0, none⟩ (.iface 73 (.pointer (some ⟨b, 0, none⟩)))) (.iface 73 (.pointer (some ⟨b, 0, none⟩))) f.1 f.2 ∧ Below W.heap.size W ((w.alloc (.cells #[.iface 73 (.pointer (some ⟨b, 0, none⟩))] 53)).setCell ⟨W.heap.size, 0, none⟩ (.iface 73 (.pointer (some ⟨b, 0, none⟩)))) ∧ ((w.alloc (.cells #[.iface 73 (.pointer (some ⟨b, 0, none⟩))] 53)).setCell ⟨W.heap.size, 0, none⟩ (.iface 73 (.pointer (some ⟨b, 0, none⟩)))).cell? ⟨W.heap.size, 0, none⟩ = some (.iface 73 (.pointer (some ⟨b, 0, none⟩))) := by
  have hne : b ≠ W.heap.size := by
    rintro rfl
    unfold World.cell? at c0
    rw [he] at c0
    simp at c0
  have hlt := World.block_lt_of_cell? w _ c0
  refine ⟨.inr (.inr ⟨b, 0, rfl, ?_, ?_⟩), below_set (hb.alloc hb.size _) (Nat.le_refl _), ?_⟩
  · exact (World.cell?_of_block (a := ⟨b, 0, none⟩) ((Below.heap_setCell _ _ _ _ hne).trans (heap_alloc_old _ _ hlt))).trans c0
  · exact (World.cell?_of_block (a := ⟨b, 1, none⟩) ((Below.heap_setCell _ _ _ _ hne).trans (heap_alloc_old _ _ hlt))).trans c1
  · refine World.cell?_setCell_same (u := .nilIface) _ _ _ ?_
    unfold World.cell?
    rw [heap_alloc_old _ _ (Array.getElem?_eq_some_iff.1 he).1, he]
    rfl
theorem CB.start {W w1 : World} {n : Nat} {T : ByteArray → Bool} (h : CB W n T w1) (C : Nat) (hC : C = w1.heap.size + 1) : CK W.heap.size C (W.heap.size + 1) w1.heap.size n 0 T (fun _ => false) (.slice none 0 0) [] ((w1.alloc (.map #[] 0)).alloc (.cells #[.map (some (W.heap.size + 1)), .map (some w1.heap.size), .slice none 0 0] 59)) := by
  have hl := h.mn.lt
  have hs : (w1.alloc (.map #[] 0)).heap.size = w1.heap.size + 1 := by simp
  have b1 : Below w1.heap.size w1 (w1.alloc (.map #[] 0)) := (Below.refl _ _).alloc (Nat.le_refl _) _
  have b2 : Below (w1.alloc (.map #[] 0)).heap.size (w1.alloc (.map #[] 0)) ((w1.alloc (.map #[] 0)).alloc (.cells #[.map (some (W.heap.size + 1)), .map (some w1.heap.size), .slice none 0 0] 59)) := (Below.refl _ _).alloc (Nat.le_refl _) _
  refine ⟨?_, (h.mn.below b1).below b2, (mN_new w1).below b2, .inl ⟨rfl, rfl⟩, Nat.ne_of_lt hl, by omega, by omega, (by intro e; cases e), (by intro e; cases e), (by intro e; cases e)⟩
  rw [hC, ← hs]
  exact heap_alloc_new _ _
section
variable {W : World}
set_option maxRecDepth 100000 in
set_option maxHeartbeats 2000000 in
theorem Check_any (v : Value) (l : List Ty) (hl : l.length ≤ 8) (h : TysAt W v l) (hw : ∀ t ∈ l, TyOk t) : Calls Tryd.prog 8 #[v] W (CkP W (checkF l fun _ => false)) := by
  obtain ⟨a, cap, rfl, hcap, _⟩ := id h
  have HI := Lib.hid h
  have HW := Lib.hid hw
  have hmm := @run_makeMap Tryd.prog
  have hmf : ∀ (fn : Fn) (first cap : Array Value) (w : World), (Instr.makeFunc fn first cap).run Tryd.prog w = .ok (.func fn first cap) w := fun _ _ _ _ => rfl
  clear h hw
  go_enter_defers Tryd.func8, Tryd.ntmps8
  go_upto_region 3 with fail
  have m0 := Lib.hid (show CB W 0 (fun _ => false) ((W.alloc (.cells #[.nilIface] 32)).alloc (.map #[] 0)) from ⟨((Below.refl _ _).alloc (Nat.le_refl _) _).alloc (by simp) _, by have := mN_new (W.alloc (.cells #[.nilIface] 32)); rwa [show (W.alloc (.cells #[.nilIface] 32)).heap.size = W.heap.size + 1 by simp] at this, (heap_alloc_old _ _ (by simp)).trans (heap_alloc_new _ _)⟩)
  generalize ((W.alloc (.cells #[.nilIface] 32)).alloc (.map #[] 0)) = w0 at *
  go_wp2_with fail
  go_loopw [11] (fun i wr => CkR W l i wr) (fun i _ => l.length - (intOf i).toNat)
  case atStart => exact ⟨0, _, rfl, Nat.zero_le _, m0, Lib.hid rfl⟩
  case round =>
    clear m0
    obtain ⟨k, T, rfl, hk, hB, hF⟩ := hrel
    by_cases hlt : k < l.length
    · obtain ⟨b, o, iv, rfl, z0, z1, z2, hit⟩ := tys_at HI.out k hlt
      obtain ⟨a12, c12, rfl, hcap12, _⟩ := id hit
      have i1 : (0 : Int) ≤ (k : Int) := by omega
      have i2 : (k : Int) < (l.length : Int) := by omega
      have hst := Lib.hid (hF.out.trans (checkF_step hlt))
      have hok := HW.out l[k] (List.getElem_mem hlt)
      have HIt := Lib.hid hit
      replace z0 := keepCell hB.out.bl z0
      replace z1 := keepCell hB.out.bl z1
      replace z2 := keepCell hB.out.bl z2
      clear hF hit
      generalize l[k] = x at *
      have hnm := hok.2.2.1
      go_upto_region 6 with fail
      have hbw := Lib.hid (show Below wr.heap.size wr (wr.alloc (.cells #[.string x.name, .int .i64 (x.at_ : Nat), .slice a12 x.items.length c12] 47)) from (Below.refl _ _).alloc (Nat.le_refl _) _)
      have HX : (wr.alloc (.cells #[.string x.name, .int .i64 (x.at_ : Nat), .slice a12 x.items.length c12] 47)).heap[wr.heap.size]? = some (.cells #[.string x.name, .int .i64 (x.at_ : Nat), .slice a12 x.items.length c12] 47) := heap_alloc_new _ _
      generalize wr.alloc (.cells #[.string x.name, .int .i64 (x.at_ : Nat), .slice a12 x.items.length c12] 47) = w1 at *
      have B1 := Lib.hid (hB.out.below hbw.out)
      have hwr2 := hB.out.mn.lt
      obtain ⟨X, hXe⟩ : ∃ X, wr.heap.size = X := ⟨_, rfl⟩
      rw [hXe] at HX hwr2 ⊢
      have HXI : YB w1 X [.string x.name, .int .i64 (x.at_ : Nat), .slice a12 x.items.length c12] := HX
      have y0 : w1.cell? ⟨X, 0, none⟩ = some (.string x.name) := HXI.cell 0
      have y1 : w1.cell? ⟨X, 1, none⟩ = some (.int .i64 (x.at_ : Nat)) := HXI.cell 1
      have y2 : w1.cell? ⟨X, 2, none⟩ = some (.slice a12 x.items.length c12) := HXI.cell 2
      have hX1 : X < w1.heap.size := World.block_lt_of_cell? w1 _ y0
      have get := B1.out.mn.get x.name hnm
      clear z0 z1 z2 hB hbw hXe HX HXI
      obtain ⟨bt, hbt⟩ : ∃ q, T x.name = q := ⟨_, rfl⟩
      rw [hbt] at get hst
      cases bt with
      | true =>
        have hR := Lib.hid (hst.out.trans (if_pos rfl))
        rw [if_pos rfl] at get
        clear hst hbt
        go_wp2_with fail
        refine (fail_any 9 (x.at_ : Nat)).mono ?_; rintro e w9 ⟨⟨b9, rfl, q0, q1⟩, hb9⟩
        have B9 := Lib.hid (B1.out.below hb9)
        have D9 := Lib.hid (door_thrown (f := (9, (x.at_ : Int))) B9.out.bl B9.out.er q0 q1)
        clear hb9 q0 q1
        go_wp2_with fail
        refine leaves_cons (f := 20) (args := #[.pointer (some ⟨W.heap.size, 0, none⟩)]) (by simp) (by simp [go_sem]) ?_
        refine (catch_thrown ⟨W.heap.size, 0, none⟩ .nilIface b9 _ B9.out.flt.1 (B9.out.flt.2 0)).mono ?_
        rintro e u' w'' ⟨rfl, rfl, rfl⟩
        simp [Leaves, settle, results, Tryd.results8, go_sem, D9.out.2.2]
        exact ⟨_, rfl, by rw [hR.out]; exact D9.out.1, D9.out.2.1⟩
      | false =>
        have hst := Lib.hid (hst.out.trans (if_neg (by decide)))
        rw [if_neg (by decide)] at get
        have hs1 : (w1.alloc (.map #[] 0)).heap.size = w1.heap.size + 1 := by simp
        have hbm := ((Below.refl w1.heap.size w1).alloc (Nat.le_refl _) (.map #[] 0)).alloc (by omega) (.cells #[.map (some (W.heap.size + 1)), .map (some w1.heap.size), .slice none 0 0] 59)
        have K2 := Lib.hid (B1.out.start (w1.heap.size + 1) rfl)
        have HP := Lib.hid (items_all _ x.items (.slice a12 x.items.length c12) W (w1.heap.size + 1) (W.heap.size + 1) w1.heap.size k 0 T (fun _ => false) (.slice none 0 0) [] _ (Nat.lt_succ_self _) HIt.out hok.1 hok.2.1 (B1.out.bl.trans (hbm.mono B1.out.bl.size)) K2.out (by have := hok.2.2.2; omega) (by have := hok.2.2.2; simp only [List.length_nil]; omega))
        have q0 := keepCell hbm y0
        have q2 := keepCell hbm y2
        have B2 := Lib.hid (B1.out.below hbm)
        have M1 := B1.out.mn.lt
        go_upto_region 9 with fail
        generalize ((w1.alloc (.map #[] 0)).alloc (.cells #[.map (some (W.heap.size + 1)), .map (some w1.heap.size), .slice none 0 0] 59)) = w2 at *
        generalize w1.heap.size = m1 at *
        clear hbt y0 y1 y2 hs1 hbm get K2
        go_wp2_with fail
        refine (HP.out).mono ?_; rintro e w5 ⟨hch, hout⟩
        have B5 := Lib.hid (hch.low B2.out.bl (by omega) (by omega) (fun _ e => by cases e) B2.out.bl.size)
        have er5 := Lib.hid ((hch.block W.heap.size (Array.getElem?_eq_some_iff.1 B2.out.er).1 (by omega) (by omega) (fun e => by cases e)).trans B2.out.er)
        have p0 : w5.cell? ⟨X, 0, none⟩ = some (.string x.name) := (World.cell?_of_block (a := ⟨X, 0, none⟩) (hch.block X (World.block_lt_of_cell? w2 _ q0) (by omega) (by omega) (fun e => by cases e))).trans q0
        clear HP hch B2 q0 q2
        rcases hout with ⟨h0, rfl, sv', n5, hK5, _, _⟩ | ⟨h0, hthr⟩
        · have HR := Lib.hid (hst.out.trans (if_neg (fun h => h h0)))
          obtain ⟨w7, e7, hM7, hg7⟩ := hK5.ty.put (by omega) x.name hnm
          have B7 := Lib.hid ((show CB W k T w5 from ⟨B5.out, hK5.ty, er5.out⟩).grown hg7 hM7)
          clear hst hM7 hg7 hK5 h0
          go_wp2_with fail
          go_roundw
          case rel => exact ⟨k + 1, _, by go_num, hlt, B7, HR⟩
          case measure => first | (simp [intOf]; done) | (simp [intOf]; omega)
        · have hR := Lib.hid (hst.out.trans (if_pos h0))
          obtain ⟨b9, rfl, q0, q1⟩ := hthr
          have D9 := Lib.hid (door_thrown B5.out er5.out q0 q1)
          have e0 : w5.cell? ⟨W.heap.size, 0, none⟩ = some .nilIface := by unfold World.cell?; rw [er5.out]; rfl
          have e1 : w5.frozen? ⟨W.heap.size, 0, none⟩ = false := by unfold World.frozen?; rw [er5.out]; rfl
          clear hst h0 q0 q1 p0
          go_wp2_with fail
          refine leaves_cons (f := 20) (args := #[.pointer (some ⟨W.heap.size, 0, none⟩)]) (by simp) (by simp [go_sem]) ?_
          refine (catch_thrown ⟨W.heap.size, 0, none⟩ .nilIface b9 _ e0 e1).mono ?_
          rintro e u' w'' ⟨rfl, rfl, rfl⟩
          simp [Leaves, settle, results, Tryd.results8, go_sem, D9.out.2.2]
          exact ⟨_, rfl, by rw [hR.out]; exact D9.out.1, D9.out.2.1⟩
    · have i2 : ¬ (k : Int) < (l.length : Int) := by omega
      have hR := Lib.hid (hF.out.trans (checkF_end hlt))
      have f0 := hB.out.flt
      obtain ⟨f0, f1⟩ := f0
      clear hF
      go_wp2_with fail
      refine leaves_cons (f := 20) (args := #[.pointer (some ⟨W.heap.size, 0, none⟩)]) (by simp) (by simp [go_sem]) ?_
      refine (catch_idle ⟨W.heap.size, 0, none⟩ _).mono ?_
      rintro e u' w'' ⟨rfl, rfl, rfl⟩
      simp [Leaves, settle, results, Tryd.results8, go_sem, f0]
      exact ⟨_, rfl, by rw [hR.out]; exact .inl ⟨rfl, rfl, rfl⟩, below_set hB.out.bl (Nat.le_refl _)⟩
end
end Go.Proofs.YtpnjlmpamincoaaDoor.Tm
