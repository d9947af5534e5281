/-
  PROVED HERE: the contract of the document's TypesCheck; the contract of slices.IndexFunc over items, of the program's find and over; the contracts of the program's find and over, and of slices.Contains; the order of rules, plain; what is so of a block in which nothing is wrong; the contract of the program's Order; the contract of the program's Order. Conditions: as each theorem states.
-/
import Derived.Test.YtkopjmofdnlplaaGreatDoorTnB
import Derived.Shelf.Abstract
namespace Go.Proofs.YtkopjmofdnlplaaGreatDoor.Tm
open Go.RowKit Go.Proofs.YtkopjmofdnlplaaGreatDoor.Lex Go.Proofs.YtkopjmofdnlplaaGreatDoor.Dig
noncomputable def checkF : List Ty → (ByteArray → Bool) → Int × Int
  | [], _ => good
  | t :: r, T => if T t.name = true then (9, (t.at_ : Int)) else if (blockF T t.items (fun _ => false) []).1.1 ≠ 0 then (blockF T t.items (fun _ => false) []).1 else checkF r (putM T t.name)
theorem checkF_step {l : List Ty} {T : ByteArray → Bool} {k : Nat} (h : k < l.length) : checkF (l.drop k) T = if T l[k].name = true then (9, (l[k].at_ : Int)) else if (blockF T l[k].items (fun _ => false) []).1.1 ≠ 0 then (blockF T l[k].items (fun _ => false) []).1 else checkF (l.drop (k + 1)) (putM T l[k].name) := by
  rw [List.drop_eq_getElem_cons h, checkF]
theorem checkF_end {l : List Ty} {T : ByteArray → Bool} {k : Nat} (h : ¬ k < l.length) : checkF (l.drop k) T = good := by
  rw [List.drop_eq_nil_iff.2 (by omega), checkF]
/-- What the parser makes of a template. -/
def TyOk (t : Ty) : Prop := WfL t.items ∧ t.items.length ≤ 16 ∧ t.name.size ≤ 1000 ∧ cl t.items ≤ 4000
theorem TysAt.below {w w' : World} {v : Value} {l : List Ty} (h : TysAt w v l) (hb : Below w.heap.size w w') : TysAt w' v l := by
  obtain ⟨a, cap, e, hl, hc⟩ := h
  refine ⟨a, cap, e, hl, fun i hi => ?_⟩
  obtain ⟨ad, iv, h1, h2, h3, h4, h5⟩ := hc i hi
  exact ⟨ad, iv, h1, keepCell hb h2, keepCell hb h3, keepCell hb h4, h5.below hb⟩
theorem tys_at {w : World} {a : Option Addr} {l : List Ty} {cap : Nat} (h : TysAt w (.slice a l.length cap) l) (k : Nat) (hk : k < l.length) : ∃ b o iv, a = some ⟨b, o, none⟩ ∧ w.cell? ⟨b, o + k * 3, none⟩ = some (.string l[k].name) ∧ w.cell? ⟨b, o + k * 3 + 1, none⟩ = some (.int .i64 (l[k].at_ : Nat)) ∧ w.cell? ⟨b, o + k * 3 + 2, none⟩ = some iv ∧ ItsAt w iv l[k].items := by
  obtain ⟨a', cap', e, _, hr⟩ := h
  simp only [Value.slice.injEq] at e
  obtain ⟨e, _, _⟩ := e
  subst e
  obtain ⟨⟨b, o, sp⟩, iv0, ha, h0, _⟩ := hr 0 (by omega)
  have hsp : sp = none := by
    rw [show (0 * 3 + 0) = 0 from rfl, show (⟨b, o, sp⟩ : Addr).add 0 = ⟨b, o, sp⟩ by simp [Addr.add]] at h0
    unfold World.cell? at h0
    cases sp with
    | none => rfl
    | some x => simp at h0; split at h0 <;> simp at h0
  subst hsp
  obtain ⟨ad, iv, hb, h1, h2, h3, h4⟩ := hr k hk
  rw [ha] at hb
  obtain rfl := Option.some.inj hb
  rw [add_none] at h1 h2 h3
  exact ⟨b, o, iv, ha, h1, h2, h3, h4⟩
theorem tc_results (tmps : Array Value) (w : World) (g : Nat) (v0 v1 : Value) (h3 : tmps.getD 2 undef = .pointer (some ⟨g, 0, none⟩)) (c0 : w.cell? ⟨g, 0, none⟩ = some v0) (c1 : w.cell? ⟨g, 1, none⟩ = some v1) :
    (results Tryz.f32 tmps).run Tryz.prog w = .ok (.agg #[v0, v1]) w := by
  have h3' : tmps[2]?.getD undef = .pointer (some ⟨g, 0, none⟩) := by simpa using h3
  simp only [results, Tryz.f32]
  simp [go_sem, h3', c0, c1]
/-- The memory: the box of what is returned, the map of types behind it. -/
structure TB (W : World) (n : Nat) (T : ByteArray → Bool) (w : World) : Prop where
  bl : Below W.heap.size W w
  ms : MS w (W.heap.size + 1) n T
  fl : w.heap[W.heap.size]? = some (.cells #[.int .i64 0, .int .i64 0] 30)
theorem TB.below {W w w' : World} {n : Nat} {T : ByteArray → Bool} (h : TB W n T w) (hb : Below w.heap.size w w') : TB W n T w' :=
  ⟨h.bl.trans (hb.mono h.bl.size), h.ms.below hb, (hb.block _ (Array.getElem?_eq_some_iff.1 h.fl).1).trans h.fl⟩
theorem TB.flt {W w : World} {n : Nat} {T : ByteArray → Bool} (h : TB W n T w) : w.cell? ⟨W.heap.size, 0, none⟩ = some (.int .i64 0) ∧ w.cell? ⟨W.heap.size, 1, none⟩ = some (.int .i64 0) ∧ ∀ j, w.frozen? ⟨W.heap.size, j, none⟩ = false := by
  refine ⟨by unfold World.cell?; rw [h.fl]; rfl, by unfold World.cell?; rw [h.fl]; rfl, fun j => ?_⟩
  unfold World.frozen?
  rw [h.fl]
  rfl
theorem TB.grown {W w w' : World} {n n' m : Nat} {T T' : ByteArray → Bool} (h : TB W n T w) (hg : w.grownBy w' (some m)) (hm : W.heap.size < m) (hT : MS w' (W.heap.size + 1) n' T') : TB W n' T' w' :=
  ⟨h.bl.trans ⟨hg.os, hg.tape, hg.output, hg.size, fun k hk => hg.block k (Nat.lt_of_lt_of_le hk h.bl.size) (fun e => by injection e; omega)⟩, hT, (hg.block _ (Array.getElem?_eq_some_iff.1 h.fl).1 (fun e => by injection e; omega)).trans h.fl⟩
def TcR (W : World) (l : List Ty) (i : Value) (wr : World) : Prop := ∃ (k : Nat) (T : ByteArray → Bool), i = .int .i64 k ∧ k ≤ l.length ∧ Hid (TB W k T wr) ∧ Hid (checkF l (fun _ => false) = checkF (l.drop k) T)
section
variable {W : World}
theorem tc_ret {w : World} {n : Nat} {T : ByteArray → Bool} {l : List Ty} {f : Int × Int} (h : TB W n T w) (e : checkF l (fun _ => false) = f) (a b : Value) :
    Ending.returned (flV f) = .returned (flV (checkF l fun _ => false)) ∧ Below W.heap.size W ((w.setCell ⟨W.heap.size, 0, none⟩ a).setCell ⟨W.heap.size, 1, none⟩ b) :=
  ⟨by rw [e], below_set (below_set h.bl (Nat.le_refl _)) (Nat.le_refl _)⟩
set_option maxRecDepth 100000 in
set_option maxHeartbeats 2000000 in
theorem check_any (v : Value) (l : List Ty) (hl : l.length ≤ 8) (h : TysAt W v l) (hw : ∀ t ∈ l, TyOk t) : Calls Tryz.prog 32 #[v] W fun e w' => e = .returned (flV (checkF l fun _ => false)) ∧ Below W.heap.size W w' := by
  obtain ⟨a, cap, rfl, hcap, _⟩ := id h
  have HI := Lib.hid h
  have HW := Lib.hid hw
  have hmm := @run_makeMap Tryz.prog
  clear h hw
  go_enter Tryz.func32, Tryz.ntmps32
  go_upto_region 2 with fail
  have m0 := Lib.hid (show TB W 0 (fun _ => false) ((W.alloc (.cells #[.int .i64 0, .int .i64 0] 30)).alloc (.map #[] 0)) from ⟨((Below.refl _ _).alloc (Nat.le_refl _) _).alloc (by simp) _, by have := mS_new (W.alloc (.cells #[.int .i64 0, .int .i64 0] 30)); rwa [show (W.alloc (.cells #[.int .i64 0, .int .i64 0] 30)).heap.size = W.heap.size + 1 by simp] at this, (heap_alloc_old _ _ (by simp)).trans (heap_alloc_new _ _)⟩)
  generalize ((W.alloc (.cells #[.int .i64 0, .int .i64 0] 30)).alloc (.map #[] 0)) = w0 at *
  go_wp2_with fail
  go_loopw [10] (fun i wr => TcR W l i wr) (fun i _ => l.length - (intOf i).toNat)
  case atStart => exact ⟨0, _, rfl, Nat.zero_le _, m0, Lib.hid rfl⟩
  case round =>
    clear m0
    obtain ⟨k, T, rfl, hk, hB, hF⟩ := hrel
    by_cases hlt : k < l.length
    · have hI1 := Lib.hid (HI.out.below hB.out.bl)
      obtain ⟨b, o, iv, rfl, z0, z1, z2, hit⟩ := tys_at hI1.out k hlt
      obtain ⟨a12, c12, rfl, hcap12, _⟩ := id hit
      have i1 : (0 : Int) ≤ (k : Int) := by omega
      have i2 : (k : Int) < (l.length : Int) := by omega
      have hst := Lib.hid (hF.out.trans (checkF_step hlt))
      have hok := HW.out l[k] (List.getElem_mem hlt)
      have HIt := Lib.hid hit
      clear hF hit hI1
      generalize l[k] = x at *
      have hnm := hok.2.2.1
      go_upto_region 5 with fail
      have hbw := Lib.hid (show Below wr.heap.size wr (wr.alloc (.cells #[.string x.name, .int .i64 (x.at_ : Nat), .slice a12 x.items.length c12] 122)) from (Below.refl _ _).alloc (Nat.le_refl _) _)
      have HX : (wr.alloc (.cells #[.string x.name, .int .i64 (x.at_ : Nat), .slice a12 x.items.length c12] 122)).heap[wr.heap.size]? = some (.cells #[.string x.name, .int .i64 (x.at_ : Nat), .slice a12 x.items.length c12] 122) := heap_alloc_new _ _
      generalize wr.alloc (.cells #[.string x.name, .int .i64 (x.at_ : Nat), .slice a12 x.items.length c12] 122) = w1 at *
      have B1 := Lib.hid (hB.out.below hbw.out)
      have I1 := Lib.hid (HIt.out.below hbw.out)
      have hwr2 := hB.out.ms.lt
      obtain ⟨X, hXe⟩ : ∃ X, wr.heap.size = X := ⟨_, rfl⟩
      rw [hXe] at HX hwr2 ⊢
      have HXI : YB w1 X [.string x.name, .int .i64 (x.at_ : Nat), .slice a12 x.items.length c12] := HX
      have y0 : w1.cell? ⟨X, 0, none⟩ = some (.string x.name) := HXI.cell 0
      have y1 : w1.cell? ⟨X, 1, none⟩ = some (.int .i64 (x.at_ : Nat)) := HXI.cell 1
      have y2 : w1.cell? ⟨X, 2, none⟩ = some (.slice a12 x.items.length c12) := HXI.cell 2
      have hX1 : X < w1.heap.size := World.block_lt_of_cell? w1 _ y0
      have get := B1.out.ms.get x.name hnm
      obtain ⟨r0, r1, g0⟩ := B1.out.flt
      clear z0 z1 z2 hB HIt hbw hXe HX HXI
      obtain ⟨bt, hbt⟩ : ∃ q, T x.name = q := ⟨_, rfl⟩
      rw [hbt] at get hst
      cases bt with
      | true =>
        have hR := Lib.hid (hst.out.trans (if_pos rfl))
        clear hst hbt
        go_wp2_with fail
        refine bodyPost_ret (tc_results _ _ W.heap.size (.int .i64 9) (.int .i64 (x.at_ : Nat)) rfl (by go_simp) (by go_simp)) rfl ?_
        exact tc_ret B1.out hR.out _ _
      | false =>
        have hst := Lib.hid (hst.out.trans (if_neg (by decide)))
        have hm2 := Lib.hid (mS_new w1)
        have hbm := (Below.refl w1.heap.size w1).alloc (Nat.le_refl _) (.map #[] 0)
        have B2 := Lib.hid (B1.out.below hbm)
        have HP := Lib.hid (block_all _ x.items (.slice a12 x.items.length c12) (.slice none 0 0) T (fun _ => false) (W.heap.size + 1) w1.heap.size k 0 [] (w1.alloc (.map #[] 0)) (Nat.lt_succ_self _) (I1.out.below hbm) hok.1 hok.2.1 B2.out.ms hm2.out (by omega) ⟨none, 0, rfl, Nat.le_refl _, fun j hj => absurd hj (Nat.not_lt_zero j)⟩ (by have := hok.2.2.2; omega) (by have := hok.2.2.2; simp only [List.length_nil]; omega))
        have q0 := keepCell hbm y0
        have q1 := keepCell hbm y1
        have s2 : (w1.alloc (.map #[] 0)).heap.size = w1.heap.size + 1 := by simp
        clear hbt hbm hm2 B1 r0 r1 g0
        go_wp2_with fail
        refine (HP.out).mono ?_; rintro e w5 ⟨n5, rfl, hg5, hM5, hn5⟩
        have C5 := Ck.grown (heap_alloc_new w1 (.map #[] 0)) hg5
        have p0 := C5.cell q0
        have p1 := C5.cell q1
        have B5 := Lib.hid (B2.out.grown hg5 (by omega) (B2.out.ms.kept hg5 (fun e => by injection e; omega)))
        obtain ⟨⟨⟨g1, g2⟩, M5⟩, hbl⟩ : ∃ f, blockF T x.items (fun _ => false) [] = f := ⟨_, rfl⟩
        rw [hbl] at hst ⊢
        simp only at hst ⊢
        have hflv : flV (g1, g2) = .agg #[.int .i64 g1, .int .i64 g2] := rfl
        rw [hflv]
        clear HP hg5 hM5 C5 hbl hflv q0 q1 B2 y0 y1 y2 s2 get I1 hn5
        go_wp2_with fail
        have hbA := Lib.hid (show Below w5.heap.size w5 (w5.alloc (.cells #[.int .i64 g1, .int .i64 g2] 30)) from (Below.refl _ _).alloc (Nat.le_refl _) _)
        have hfA : (w5.alloc (.cells #[.int .i64 g1, .int .i64 g2] 30)).heap[w5.heap.size]? = some (.cells #[.int .i64 g1, .int .i64 g2] 30) := heap_alloc_new _ _
        generalize w5.alloc (.cells #[.int .i64 g1, .int .i64 g2] 30) = wg at *
        refine (is_any g1 g2 _).mono ?_; rintro e w6 ⟨rfl, hb⟩
        have hbB := Lib.hid (hbA.out.trans (hb.mono hbA.out.size))
        have hfB := (hb.block _ (Array.getElem?_eq_some_iff.1 hfA).1).trans hfA
        have u0 : w6.cell? ⟨w5.heap.size, 0, none⟩ = some (.int .i64 g1) := by unfold World.cell?; rw [hfB]; rfl
        have u1 : w6.cell? ⟨w5.heap.size, 1, none⟩ = some (.int .i64 g2) := by unfold World.cell?; rw [hfB]; rfl
        have B6 := Lib.hid (B5.out.below hbB.out)
        have v0 := keepCell hbB.out p0
        obtain ⟨F, hFe⟩ : ∃ F, w5.heap.size = F := ⟨_, rfl⟩
        rw [hFe] at u0 u1 ⊢
        clear hb hbA hfA hbB hfB B5 hFe p0 p1
        obtain ⟨r0, r1, g0⟩ := B6.out.flt
        by_cases hg0 : g1 = 0
        · subst hg0
          have e0 : ((0 : Int) == 0) = true := rfl
          rw [e0]
          have HR := Lib.hid (hst.out.trans (if_neg (fun h => h rfl)))
          obtain ⟨w7, e7, hM7, hg7⟩ := B6.out.ms.put (by omega) x.name hnm
          have B7 := Lib.hid (B6.out.grown hg7 (Nat.lt_succ_self _) hM7)
          clear hst hM7 hg7 r0 r1 g0
          go_wp2_with fail
          go_roundw
          case rel => exact ⟨k + 1, _, by go_num, hlt, B7, HR⟩
          case measure => first | (simp [intOf]; done) | (simp [intOf]; omega)
        · have e0 : (g1 == 0) = false := by simpa using hg0
          rw [e0]
          have hR := Lib.hid (hst.out.trans (if_pos hg0))
          clear hg0 e0 hst
          go_wp2_with fail
          refine bodyPost_ret (tc_results _ _ W.heap.size (.int .i64 g1) (.int .i64 g2) rfl (by go_simp) (by go_simp)) rfl ?_
          exact tc_ret B6.out hR.out _ _
    · have i2 : ¬ (k : Int) < (l.length : Int) := by omega
      have hR := Lib.hid (hF.out.trans (checkF_end hlt))
      clear hF
      go_wp2_with fail
      refine (good_any _).mono ?_; rintro e w3 ⟨rfl, hb⟩
      have B3 := Lib.hid (hB.out.below hb)
      obtain ⟨r0, r1, g0⟩ := B3.out.flt
      clear hb hB
      go_wp2_with fail
      refine bodyPost_ret (tc_results _ _ W.heap.size (.int .i64 0) (.int .i64 (-1)) rfl (by go_simp) (by go_simp)) rfl ?_
      exact tc_ret B3.out hR.out _ _
end
end Go.Proofs.YtkopjmofdnlplaaGreatDoor.Tm
namespace Go.Proofs.YtkopjmofdnlplaaGreatDoor.Tm
open Go.RowKit Go.Proofs.YtkopjmofdnlplaaGreatDoor.Lex Go.Proofs.YtkopjmofdnlplaaGreatDoor.Dig
/-- The first item that fits. -/
def idxF (q : It → Bool) : List It → Nat → Option Nat
  | [], _ => none
  | x :: r, j => if q x = true then some j else idxF q r (j + 1)
def idxI (q : It → Bool) (l : List It) : Int := match idxF q l 0 with | some k => (k : Int) | none => -1
theorem idxF_step {q : It → Bool} {l : List It} {k : Nat} (h : k < l.length) : idxF q (l.drop k) k = if q l[k] = true then some k else idxF q (l.drop (k + 1)) (k + 1) := by
  rw [List.drop_eq_getElem_cons h, idxF]
theorem which_idx (s : ByteArray) : ∀ (l : List It) (j : Nat), whichF l s j = idxF (fun x => x.kind != 4 && decide (x.name = s)) l j := by
  intro l
  induction l with
  | nil => intro j; rfl
  | cons x r ih =>
    intro j
    rw [whichF, idxF, ih]
    by_cases h : x.kind ≠ 4 ∧ x.name = s
    · rw [if_pos h, if_pos (by simp [h.1, h.2])]
    · rw [if_neg h, if_neg (fun h2 => h (by simpa using h2))]
theorem whichI_idx (l : List It) (s : ByteArray) : whichI l s = idxI (fun x => x.kind != 4 && decide (x.name = s)) l := by
  unfold whichI idxI
  rw [which_idx]
  rfl
/-- The closure tells of each item of the list whether it fits. -/
def Tells (W : World) (l : List It) (fn : Nat) (caps : Array Value) (q : It → Bool) : Prop := ∀ (x : It) (p : Option Addr) (a : Option Addr) (c : Nat) (w : World), x ∈ l → Below W.heap.size W w → ItAt w x (.pointer p) (.slice a x.items.length c) →
  Calls Tryz.prog fn (#[.agg (itVals x (.pointer p) (.slice a x.items.length c)).toArray] ++ caps) w fun e w' => e = .returned (.bool (q x)) ∧ Below w.heap.size w w'
def IxR (W : World) (l : List It) (q : It → Bool) (i : Value) (wr : World) : Prop := ∃ k : Nat, i = .int .i64 k ∧ k ≤ l.length ∧ Hid (idxF q l 0 = idxF q (l.drop k) k) ∧ Hid (Below W.heap.size W wr)
section
variable {W : World}
set_option maxRecDepth 100000 in
set_option maxHeartbeats 2000000 in
theorem indexFunc_any (v : Value) (l : List It) (hl : l.length ≤ 1000) (h : ItsAt W v l) (fn : Nat) (caps : Array Value) (q : It → Bool) (hf : Tells W l fn caps q) (hen : Enters Tryz.prog fn) : Calls Tryz.prog 130 #[v, .func (.func fn) #[] caps] W fun e w' => e = .returned (.int .i64 (idxI q l)) ∧ Below W.heap.size W w' := by
  obtain ⟨a, cap, rfl, hcap, hr⟩ := id h
  have HI := Lib.hid h
  have HF := Lib.hid hf
  have hE : ∀ (args : Array Value) (w : World), (callFunc fn args).run Tryz.prog w = .ok (.enter fn args) w := hen
  clear h hr hf hen
  go_enter Tryz.func130, Tryz.ntmps130
  go_wp2_with fail
  go_loopw [8] (fun i wr => IxR W l q i wr) (fun i _ => l.length - (intOf i).toNat)
  case atStart => exact ⟨0, rfl, Nat.zero_le _, Lib.hid rfl, Lib.hid (Below.refl _ _)⟩
  case round =>
    obtain ⟨k, rfl, hk, hw, hb⟩ := hrel
    by_cases hlt : k < l.length
    · obtain ⟨b, o, cv, iv, rfl, hc, hit⟩ := its_at (HI.out.below hb.out) k hlt
      obtain ⟨⟨p8, rfl⟩, a12, c12, rfl⟩ := it_forms hit
      have i1 : (0 : Int) ≤ (k : Int) := by omega
      have i2 : (k : Int) < (l.length : Int) := by omega
      have hst := Lib.hid (hw.out.trans (idxF_step hlt))
      have HC := Lib.hid (HF.out l[k] p8 a12 c12 wr (List.getElem_mem hlt) hb.out hit)
      clear hit
      generalize l[k] = x at *
      have z0 : wr.cell? ⟨b, o + k * 13, none⟩ = some (.int .i64 x.kind) := hc 0 _ rfl
      have z1 : wr.cell? ⟨b, o + k * 13 + 1, none⟩ = some (.int .i64 (x.at_ : Nat)) := hc 1 _ rfl
      have z2 : wr.cell? ⟨b, o + k * 13 + 2, none⟩ = some (.string x.name) := hc 2 _ rfl
      have z3 : wr.cell? ⟨b, o + k * 13 + 3, none⟩ = some (.string x.type) := hc 3 _ rfl
      have z4 : wr.cell? ⟨b, o + k * 13 + 4, none⟩ = some (.int .i64 x.width) := hc 4 _ rfl
      have z5 : wr.cell? ⟨b, o + k * 13 + 5, none⟩ = some (.int .i64 x.order) := hc 5 _ rfl
      have z6 : wr.cell? ⟨b, o + k * 13 + 6, none⟩ = some (.bool x.signed) := hc 6 _ rfl
      have z7 : wr.cell? ⟨b, o + k * 13 + 7, none⟩ = some (.bool x.many) := hc 7 _ rfl
      have z8 : wr.cell? ⟨b, o + k * 13 + 8, none⟩ = some (.pointer p8) := hc 8 _ rfl
      have z9 : wr.cell? ⟨b, o + k * 13 + 9, none⟩ = some (.int .i64 x.rule) := hc 9 _ rfl
      have z10 : wr.cell? ⟨b, o + k * 13 + 10, none⟩ = some (.string x.first) := hc 10 _ rfl
      have z11 : wr.cell? ⟨b, o + k * 13 + 11, none⟩ = some (.string x.last) := hc 11 _ rfl
      have z12 : wr.cell? ⟨b, o + k * 13 + 12, none⟩ = some (.slice a12 x.items.length c12) := hc 12 _ rfl
      clear hc
      go_wp2_with fail
      refine (HC.out).mono ?_; rintro e w2 ⟨rfl, hb2⟩
      have B2 := Lib.hid (hb.out.trans (hb2.mono hb.out.size))
      obtain ⟨bq, hbq⟩ : ∃ y, q x = y := ⟨_, rfl⟩
      rw [hbq] at hst ⊢
      clear hbq hb2
      cases bq with
      | true =>
        have hR := Lib.hid (hst.out.trans (if_pos rfl))
        go_wp2_with fail
        go_ret
        refine ⟨?_, B2.out⟩
        unfold idxI
        rw [hR.out]
        rfl
      | false =>
        have hR := Lib.hid (hst.out.trans (if_neg (by decide)))
        go_wp2_with fail
        go_roundw
        case rel => exact ⟨k + 1, by go_num, hlt, hR, B2⟩
        case measure => first | (simp [intOf]; done) | (simp [intOf]; omega)
    · have i2 : ¬ (k : Int) < (l.length : Int) := by omega
      go_wp2_with fail
      go_ret
      refine ⟨?_, hb.out⟩
      have e := hw.out
      rw [show l.drop k = [] from List.drop_eq_nil_iff.2 (by omega)] at e
      unfold idxI
      rw [e]
      rfl
end
end Go.Proofs.YtkopjmofdnlplaaGreatDoor.Tm
namespace Go.Proofs.YtkopjmofdnlplaaGreatDoor.Tm
open Go.RowKit Go.Proofs.YtkopjmofdnlplaaGreatDoor.Lex Go.Proofs.YtkopjmofdnlplaaGreatDoor.Dig
section
variable {W : World}
set_option maxRecDepth 100000 in
theorem find1_any (x : It) (p a : Option Addr) (c bx : Nat) (s : ByteArray) (w : World) (hb : w.cell? ⟨bx, 0, none⟩ = some (.string s)) :
    Calls Tryz.prog 155 #[.agg (itVals x (.pointer p) (.slice a x.items.length c)).toArray, .pointer (some ⟨bx, 0, none⟩)] w fun e w' => e = .returned (.bool (x.kind != 4 && decide (x.name = s))) ∧ Below w.heap.size w w' := by
  rw [show (itVals x (.pointer p) (.slice a x.items.length c)).toArray = #[.int .i64 x.kind, .int .i64 (x.at_ : Nat), .string x.name, .string x.type, .int .i64 x.width, .int .i64 x.order, .bool x.signed, .bool x.many, .pointer p, .int .i64 x.rule, .string x.first, .string x.last, .slice a x.items.length c] from rfl]
  have hlt := World.block_lt_of_cell? w _ hb
  have hB := (Below.refl w.heap.size w).alloc (Nat.le_refl _) (.cells #[.int .i64 x.kind, .int .i64 (x.at_ : Nat), .string x.name, .string x.type, .int .i64 x.width, .int .i64 x.order, .bool x.signed, .bool x.many, .pointer p, .int .i64 x.rule, .string x.first, .string x.last, .slice a x.items.length c] 78)
  have HB := Lib.hid hB
  have hb2 := keepCell hB hb
  clear hB hlt
  obtain ⟨kd, hkd⟩ : ∃ y, x.kind = y := ⟨_, rfl⟩
  obtain ⟨nm, hnm⟩ : ∃ y, x.name = y := ⟨_, rfl⟩
  rw [hkd, hnm] at HB hb2 ⊢
  clear hkd hnm
  go_enter Tryz.func155, Tryz.ntmps155
  by_cases h4 : kd = 4
  · subst h4
    go_wp2_with fail
    go_ret
    exact ⟨by simp, HB.out⟩
  · have e4 : (kd != 4) = true := by simpa using h4
    rw [e4]
    by_cases h5 : nm = s
    · have e2 : (nm.toList == s.toList) = true := by rw [h5]; exact beq_self_eq_true _
      have e3 : decide (nm = s) = true := decide_eq_true h5
      rw [e3]
      clear h5 h4
      go_wp2_with fail
      go_ret
      exact ⟨rfl, HB.out⟩
    · have e2 : (nm.toList == s.toList) = false := (Go.Lib.bytes_beq_false_iff _ _).2 h5
      have e3 : decide (nm = s) = false := decide_eq_false h5
      rw [e3]
      clear h5 h4
      go_wp2_with fail
      go_ret
      exact ⟨rfl, HB.out⟩
set_option maxRecDepth 100000 in
theorem find_any (v : Value) (l : List It) (hl : l.length ≤ 16) (s : ByteArray) (h : ItsAt W v l) : Calls Tryz.prog 132 #[v, .string s] W fun e w' => e = .returned (.int .i64 (whichI l s)) ∧ Below W.heap.size W w' := by
  obtain ⟨a, cap, rfl, hcap, hr⟩ := id h
  have hB := (Below.refl W.heap.size W).alloc (Nat.le_refl _) (.cells #[.string s] 9)
  have HB := Lib.hid hB
  have hC := Lib.hid (indexFunc_any (W := W.alloc (.cells #[.string s] 9)) _ l (by omega) (h.below hB) 155 #[.pointer (some ⟨W.heap.size, 0, none⟩)] (fun x => x.kind != 4 && decide (x.name = s))
    (fun x p a c w _ hbw _ => find1_any x p a c W.heap.size s w (keepCell hbw (new_cell W (.string s) 9))) (enters_of Tryz.func155 (by kernel_rfl) rfl))
  rw [← whichI_idx] at hC
  clear h hr hB
  go_enter Tryz.func132, Tryz.ntmps132
  go_wp2_with fail
  refine (hC.out).mono ?_; rintro e w1 ⟨rfl, hb⟩
  have HB2 := Lib.hid (HB.out.trans (hb.mono HB.out.size))
  clear hb
  go_wp2_with fail
  go_ret
  exact ⟨rfl, HB2.out⟩
def overP (l : List It) (i : Nat) (k : Int) : Bool := match l[i]? with | some x => x.rule == 3 && (decide (whichI l x.first ≤ k) && decide (k ≤ whichI l x.last)) | none => false
set_option maxRecDepth 100000 in
set_option maxHeartbeats 2000000 in
theorem over_any (v : Value) (l : List It) (hl : l.length ≤ 16) (h : ItsAt W v l) (i : Nat) (hi : i < l.length) (k : Int) : Calls Tryz.prog 134 #[v, .int .i64 (i : Nat), .int .i64 k] W fun e w' => e = .returned (.bool (overP l i k)) ∧ Below W.heap.size W w' := by
  obtain ⟨a, cap, rfl, hcap, hr⟩ := id h
  have HI := Lib.hid h
  obtain ⟨b, o, cv, iv, rfl, hc, _⟩ := its_at h i hi
  have y9 : W.cell? ⟨b, o + i * 13 + 9, none⟩ = some (.int .i64 l[i].rule) := hc 9 _ rfl
  have y10 : W.cell? ⟨b, o + i * 13 + 10, none⟩ = some (.string l[i].first) := hc 10 _ rfl
  have y11 : W.cell? ⟨b, o + i * 13 + 11, none⟩ = some (.string l[i].last) := hc 11 _ rfl
  have i1 : (0 : Int) ≤ (i : Int) := by omega
  have i2 : (i : Int) < (l.length : Int) := by omega
  have hP : overP l i k = (l[i].rule == 3 && (decide (whichI l l[i].first ≤ k) && decide (k ≤ whichI l l[i].last))) := by unfold overP; rw [List.getElem?_eq_getElem hi]
  rw [hP]
  clear h hr hc hP
  generalize l[i] = x at *
  obtain ⟨ru, hru⟩ : ∃ y, x.rule = y := ⟨_, rfl⟩
  rw [hru] at y9 ⊢
  clear hru
  have C1 := Lib.hid (find_any (W := W) _ l hl x.first HI.out)
  have C2 := Lib.hid (fun w (hb : Below W.heap.size W w) => find_any (W := w) _ l hl x.last (HI.out.below hb))
  obtain ⟨A, hA⟩ : ∃ y, whichI l x.first = y := ⟨_, rfl⟩
  obtain ⟨B, hB⟩ : ∃ y, whichI l x.last = y := ⟨_, rfl⟩
  rw [hA] at C1 ⊢
  rw [hB] at C2 ⊢
  clear hA hB
  go_enter Tryz.func134, Tryz.ntmps134
  by_cases h3 : ru = 3
  · subst h3
    go_wp2_with fail
    refine (C1.out).mono ?_; rintro e w1 ⟨rfl, hb⟩
    have x11 := keepCell hb y11
    have B1 := Lib.hid hb
    have C3 := Lib.hid (C2.out w1 hb)
    clear hb C1 C2
    by_cases hk : A ≤ k
    · go_wp2_with fail
      refine (C3.out).mono ?_; rintro e w2 ⟨rfl, hb⟩
      have B2 := Lib.hid (B1.out.trans (hb.mono B1.out.size))
      clear hb
      go_wp2_with fail
      go_ret
      exact ⟨by simp [hk], B2.out⟩
    · have hk' : k < A := by omega
      go_wp2_with fail
      go_ret
      exact ⟨by simp <;> omega, B1.out⟩
  · have e3 : (ru == 3) = false := by simpa using h3
    rw [e3]
    go_wp2_with fail
    go_ret
    exact ⟨by simp, Below.refl _ _⟩
def ixF (y : Int) : List Int → Nat → Option Nat
  | [], _ => none
  | x :: r, j => if y = x then some j else ixF y r (j + 1)
def ixI (y : Int) (l : List Int) : Int := match ixF y l 0 with | some k => (k : Int) | none => -1
theorem ixF_step {y : Int} {l : List Int} {k : Nat} (h : k < l.length) : ixF y (l.drop k) k = if y = l[k] then some k else ixF y (l.drop (k + 1)) (k + 1) := by
  rw [List.drop_eq_getElem_cons h, ixF]
theorem ixF_mem {y : Int} : ∀ (l : List Int) (j : Nat), (ixF y l j).isSome = decide (y ∈ l) := by
  intro l
  induction l with
  | nil => intro j; rfl
  | cons x r ih =>
    intro j
    rw [ixF]
    by_cases h : y = x
    · rw [if_pos h]; simp [h]
    · rw [if_neg h, ih]; simp [h]
theorem ixI_mem (y : Int) (l : List Int) : decide (0 ≤ ixI y l) = decide (y ∈ l) := by
  unfold ixI
  rw [← ixF_mem l 0]
  cases ixF y l 0 with
  | none => rfl
  | some k => simp
set_option maxRecDepth 100000 in
set_option maxHeartbeats 2000000 in
theorem index_any (B : Nat) (v : Value) (l : List Int) (hl : l.length ≤ 1000) (h : Own W B 3 v (i64s l)) (y : Int) : Calls Tryz.prog 156 #[v, .int .i64 y] W fun e w' => e = .returned (.int .i64 (ixI y l)) ∧ W = w' := by
  obtain ⟨a, cap, rfl⟩ := h.len
  rw [i64s_len] at h ⊢
  have HO := Lib.hid h
  clear h
  go_enter Tryz.func156, Tryz.ntmps156
  go_wp2_with fail
  go_loopw [8] (fun i wr => wr = W ∧ ∃ k : Nat, i = .int .i64 k ∧ k ≤ l.length ∧ Hid (ixF y l 0 = ixF y (l.drop k) k)) (fun i _ => l.length - (intOf i).toNat)
  case atStart => exact ⟨rfl, 0, rfl, Nat.zero_le _, Lib.hid rfl⟩
  case round =>
    obtain ⟨rfl, k, rfl, hk, hw⟩ := hrel
    by_cases hlt : k < l.length
    · obtain ⟨g, rfl, hc⟩ := HO.out.at_ k (by rw [i64s_len]; exact hlt)
      rw [i64s_get] at hc
      have hg : l.getD k 0 = l[k] := by simp [List.getD_eq_getElem?_getD, hlt]
      rw [hg] at hc
      have i1 : (0 : Int) ≤ (k : Int) := by omega
      have i2 : (k : Int) < (l.length : Int) := by omega
      have hst := Lib.hid (hw.out.trans (ixF_step hlt))
      generalize l[k] = x at *
      by_cases h5 : y = x
      · have e2 : (y == x) = true := by simpa using h5
        have hR := Lib.hid (hst.out.trans (if_pos h5))
        clear hg h5
        go_wp2_with fail
        go_ret
        refine ⟨?_, rfl⟩
        unfold ixI
        rw [hR.out]
        rfl
      · have e2 : (y == x) = false := by simpa using h5
        have hR := Lib.hid (hst.out.trans (if_neg h5))
        clear hg h5
        go_wp2_with fail
        go_roundw
        case rel => first | exact ⟨rfl, k + 1, by go_num, hlt, hR⟩ | exact ⟨trivial, k + 1, by go_num, hlt, hR⟩
        case measure => first | (simp [intOf]; done) | (simp [intOf]; omega)
    · have i2 : ¬ (k : Int) < (l.length : Int) := by omega
      go_wp2_with fail
      go_ret
      refine ⟨?_, rfl⟩
      have e := hw.out
      rw [show l.drop k = [] from List.drop_eq_nil_iff.2 (by omega)] at e
      unfold ixI
      rw [e]
      rfl
set_option maxRecDepth 100000 in
theorem contains_any (B : Nat) (v : Value) (l : List Int) (hl : l.length ≤ 1000) (h : Own W B 3 v (i64s l)) (y : Int) : Calls Tryz.prog 133 #[v, .int .i64 y] W fun e w' => e = .returned (.bool (decide (y ∈ l))) ∧ W = w' := by
  have C := Lib.hid (index_any B v l hl h y)
  have hm := ixI_mem y l
  rw [← hm]
  clear h hm
  go_enter Tryz.func133, Tryz.ntmps133
  go_wp2_with fail
  refine (C.out).mono ?_; rintro e w1 ⟨rfl, rfl⟩
  go_wp2_with fail
  go_ret
  exact ⟨by simp, rfl⟩
end
end Go.Proofs.YtkopjmofdnlplaaGreatDoor.Tm
namespace Go.Proofs.YtkopjmofdnlplaaGreatDoor.Tm
open Go.RowKit Go.Proofs.YtkopjmofdnlplaaGreatDoor.Lex Go.Proofs.YtkopjmofdnlplaaGreatDoor.Dig
/-! ### The order -/
def ruleAt (l : List It) (k : Nat) : Int := match l[k]? with | some y => y.rule | none => 0
theorem ruleAt_at {l : List It} {k : Nat} (h : k < l.length) : ruleAt l k = l[k].rule := by unfold ruleAt; rw [List.getElem?_eq_getElem h]
/-- Whether the check j is the next one that may be done. -/
def okAt (l : List It) (out : List Int) (j : Nat) : Bool := ruleAt l j == 3 && (!decide ((j : Int) ∈ out) && (cov l j).all fun k => decide ((k : Int) ∈ out))
def nextF (l : List It) (out : List Int) : List Nat → Option Nat
  | [] => none
  | j :: r => if okAt l out j = true then some j else nextF l out r
def ordF (l : List It) : Nat → List Int → List Int
  | 0, out => out
  | f + 1, out => match nextF l out (List.range l.length) with | none => out | some j => ordF l f (out ++ [(j : Int)])
def out0 (l : List It) (n : Nat) : List Int := ((List.range n).filter fun k => ruleAt l k == 1 || ruleAt l k == 2).map Int.ofNat
theorem out0_step (l : List It) (k : Nat) : out0 l (k + 1) = if (ruleAt l k == 1 || ruleAt l k == 2) = true then out0 l k ++ [(k : Int)] else out0 l k := by
  unfold out0
  rw [List.range_succ, List.filter_append, List.map_append]
  by_cases h : (ruleAt l k == 1 || ruleAt l k == 2) = true
  · rw [if_pos h]; simp [h]
  · rw [if_neg h]; simp [h]
/-- How many are not in the list. -/
def lft (n : Nat) (out : List Int) : Nat := ((List.range n).filter fun j : Nat => !decide ((j : Int) ∈ out)).length
theorem filter_lt {p q : Nat → Bool} {l : List Nat} {k : Nat} (hk : k ∈ l) (hpk : p k = true) (hqk : q k = false) (h : ∀ x ∈ l, q x = true → p x = true) : (l.filter q).length < (l.filter p).length := by
  induction l with
  | nil => simp at hk
  | cons x r ih =>
    have hr : (r.filter q).length ≤ (r.filter p).length := by
      clear ih hk
      induction r with
      | nil => simp
      | cons y s ih2 =>
        have h2 := ih2 (fun z hz => h z (by rcases List.mem_cons.1 hz with e | e; exact e ▸ List.mem_cons_self; exact List.mem_cons_of_mem _ (List.mem_cons_of_mem _ e)))
        have hy := h y (List.mem_cons_of_mem _ List.mem_cons_self)
        rw [List.filter_cons, List.filter_cons]
        cases hq : q y with
        | true => rw [hy hq]; simpa using h2
        | false => cases p y with
          | true => simp; omega
          | false => simpa using h2
    rw [List.filter_cons, List.filter_cons]
    rcases List.mem_cons.1 hk with rfl | hk
    · rw [hpk, hqk]; simp; omega
    · have h1 := ih hk (fun z hz => h z (List.mem_cons_of_mem _ hz))
      have hx := h x List.mem_cons_self
      cases hq : q x with
      | true => rw [hx hq]; simpa using h1
      | false => cases p x with
        | true => simp; omega
        | false => simpa using h1
theorem lft_put {n : Nat} {out : List Int} {k : Nat} (hk : k < n) (h : (k : Int) ∉ out) : lft n (out ++ [(k : Int)]) < lft n out := by
  unfold lft
  refine filter_lt (List.mem_range.2 hk) (by simp [h]) (by simp) (fun x _ hx => ?_)
  simp only [Bool.not_eq_true', decide_eq_false_iff_not, List.mem_append, not_or] at hx ⊢
  exact hx.1
theorem nextF_mem {l : List It} {out : List Int} : ∀ (r : List Nat) (j : Nat), nextF l out r = some j → j ∈ r ∧ okAt l out j = true := by
  intro r
  induction r with
  | nil => intro j h; cases h
  | cons x r ih =>
    intro j h
    rw [nextF] at h
    by_cases hx : okAt l out x = true
    · rw [if_pos hx] at h
      injection h with h
      subst h
      exact ⟨List.mem_cons_self, hx⟩
    · rw [if_neg hx] at h
      obtain ⟨h1, h2⟩ := ih j h
      exact ⟨List.mem_cons_of_mem _ h1, h2⟩
theorem okAt_out {l : List It} {out : List Int} {j : Nat} (h : okAt l out j = true) : (j : Int) ∉ out := by
  unfold okAt at h
  simp only [Bool.and_eq_true, Bool.not_eq_true', decide_eq_false_iff_not] at h
  exact h.2.1
/-- More fuel than that is not wanted. -/
theorem ordF_fuel (l : List It) : ∀ (f g : Nat) (out : List Int), lft l.length out < f → lft l.length out < g → ordF l f out = ordF l g out := by
  intro f
  induction f with
  | zero => intro g out h; omega
  | succ f ih =>
    intro g out h1 h2
    cases g with
    | zero => omega
    | succ g =>
      unfold ordF
      cases hn : nextF l out (List.range l.length) with
      | none => rfl
      | some j =>
        obtain ⟨h3, h4⟩ := nextF_mem _ _ hn
        have := lft_put (List.mem_range.1 h3) (okAt_out h4)
        exact ih g _ (by omega) (by omega)
def ord (l : List It) (out : List Int) : List Int := ordF l (lft l.length out + 1) out
theorem ord_none {l : List It} {out : List Int} (h : nextF l out (List.range l.length) = none) : ord l out = out := by unfold ord ordF; rw [h]
theorem ord_some {l : List It} {out : List Int} {j : Nat} (h : nextF l out (List.range l.length) = some j) : ord l out = ord l (out ++ [(j : Int)]) := by
  obtain ⟨h3, h4⟩ := nextF_mem _ _ h
  have := lft_put (List.mem_range.1 h3) (okAt_out h4)
  unfold ord
  rw [show lft l.length out + 1 = (lft l.length out) + 1 from rfl]
  rw [ordF]
  rw [h]
  exact ordF_fuel l _ _ _ (by omega) (by omega)
/-! ### A block in which nothing is wrong -/
def Fine (l : List It) : Prop := ∃ T M seen, (blockF T l M seen).1.1 = 0
mutual
theorem itemF_mono (T : ByteArray → Bool) (s : ByteArray) : (x : It) → (M : ByteArray → Bool) → (seen : List ByteArray) → M s = true → (itemF T x M seen).2.1 s = true
  | .mk k a n t wd o sg mn c ru f la its, M, seen, h => by
    have hp : putM M n s = true := by unfold putM; split; rfl; exact h
    unfold itemF
    split
    · split
      · exact h
      · exact itemsF_mono T s its M seen h
    · split
      · exact h
      · split
        · exact hp
        · unfold tailF
          split
          · exact hp
          · split
            · exact hp
            · exact hp
theorem itemsF_mono (T : ByteArray → Bool) (s : ByteArray) : (l : List It) → (M : ByteArray → Bool) → (seen : List ByteArray) → M s = true → (itemsF T l M seen).2.1 s = true
  | [], M, seen, h => by unfold itemsF; exact h
  | x :: r, M, seen, h => by
    unfold itemsF
    have h1 := itemF_mono T s x M seen h
    simp only
    split
    · exact h1
    · exact itemsF_mono T s r _ _ h1
end
def Dist : List It → Prop
  | [] => True
  | x :: r => (x.kind ≠ 4 → ∀ y ∈ r, y.kind ≠ 4 → y.name ≠ x.name) ∧ Dist r
theorem itemF_good {T M : ByteArray → Bool} {x : It} {seen : List ByteArray} (h : (itemF T x M seen).1.1 = 0) : (x.kind ≠ 4 → M x.name = false ∧ (itemF T x M seen).2.1 x.name = true) ∧ (x.kind = 4 → Fine x.items) := by
  constructor
  · intro hk
    rw [itemF_other hk] at h ⊢
    by_cases h1 : M x.name = true
    · rw [if_pos h1] at h; cases h
    · rw [if_neg h1] at h ⊢
      have hp : putM M x.name x.name = true := if_pos rfl
      refine ⟨by simpa using h1, ?_⟩
      split
      · exact hp
      · unfold tailF
        split
        · exact hp
        · split
          · exact hp
          · exact hp
  · intro hk
    rw [itemF_when hk] at h
    by_cases h1 : (hasC seen (ctN x.count)).1 ≠ 0
    · rw [if_pos h1] at h; exact absurd h h1
    · rw [if_neg h1] at h
      exact ⟨T, M, seen, h⟩
theorem itemsF_good {T : ByteArray → Bool} : ∀ (l : List It) (M : ByteArray → Bool) (seen : List ByteArray), (itemsF T l M seen).1.1 = 0 → (∀ x ∈ l, x.kind ≠ 4 → M x.name = false) ∧ Dist l ∧ ∀ x ∈ l, x.kind = 4 → Fine x.items := by
  intro l
  induction l with
  | nil => intro M seen _; exact ⟨fun _ h => (by simp at h), trivial, fun _ h => (by simp at h)⟩
  | cons x r ih =>
    intro M seen h
    unfold itemsF at h
    simp only at h
    have h0 : (itemF T x M seen).1.1 = 0 := by
      by_cases e : (itemF T x M seen).1.1 = 0
      · exact e
      · rw [if_pos e] at h; exact h
    rw [if_neg (fun e => e h0)] at h
    obtain ⟨h1, h2, h3⟩ := ih _ _ h
    obtain ⟨h4, h5⟩ := itemF_good h0
    refine ⟨fun y hy hk => ?_, ⟨fun hk y hy hky e => ?_, h2⟩, fun y hy hk => ?_⟩
    · rcases List.mem_cons.1 hy with rfl | hy
      · exact (h4 hk).1
      · have h6 := h1 y hy hk
        cases hm : M y.name with
        | false => rfl
        | true => rw [itemF_mono T y.name x M seen hm] at h6; cases h6
    · have h6 := h1 y hy hky
      rw [e, (h4 hk).2] at h6
      cases h6
    · rcases List.mem_cons.1 hy with rfl | hy
      · exact h5 hk
      · exact h3 y hy hk
theorem which_dist : ∀ (l : List It) (j i : Nat) (h : j < l.length), Dist l → l[j].kind ≠ 4 → whichF l l[j].name i = some (i + j) := by
  intro l
  induction l with
  | nil => intro j i h; simp at h
  | cons x r ih =>
    intro j i h hd hk
    cases j with
    | zero =>
      rw [whichF, if_pos ⟨hk, rfl⟩]
      rfl
    | succ j =>
      have hj : j < r.length := by simpa using h
      simp only [List.getElem_cons_succ] at hk ⊢
      rw [whichF, if_neg (fun e => hd.1 e.1 r[j] (List.getElem_mem hj) hk e.2.symm), ih j (i + 1) hj hd.2 hk, show i + 1 + j = i + (j + 1) by omega]
theorem firstOf_good {f : Nat → It → Int × Int} : ∀ (l : List It) (i : Nat), (firstOf f l i).1 = 0 → ∀ j (h : j < l.length), (f (i + j) l[j]).1 = 0 := by
  intro l
  induction l with
  | nil => intro i _ j h; simp at h
  | cons x r ih =>
    intro i h0 j h
    rw [firstOf] at h0
    have hx : (f i x).1 = 0 := by
      by_cases e : (f i x).1 = 0
      · exact e
      · rw [if_pos e] at h0; exact h0
    rw [if_neg (fun e => e hx)] at h0
    cases j with
    | zero => exact hx
    | succ j =>
      have := ih (i + 1) h0 j (by simpa using h)
      rw [show i + 1 + j = i + (j + 1) by omega] at this
      exact this
/-- What is so of it. -/
structure Fin1 (l : List It) : Prop where
  whi : ∀ j (h : j < l.length), l[j].kind ≠ 4 → whichI l l[j].name = j
  fst : ∀ j (h : j < l.length), l[j].rule ≠ 0 → 0 ≤ whichI l l[j].first
  lst : ∀ j (h : j < l.length), l[j].rule = 3 → 0 ≤ whichI l l[j].last
  sub : ∀ x ∈ l, x.kind = 4 → Fine x.items
theorem Fine.all {l : List It} (h : Fine l) : Fin1 l := by
  obtain ⟨T, M, seen, h⟩ := h
  unfold blockF at h
  simp only at h
  have h0 : (itemsF T l M seen).1.1 = 0 := by
    by_cases e : (itemsF T l M seen).1.1 = 0
    · exact e
    · rw [if_pos e] at h; exact h
  rw [if_neg (fun e => e h0)] at h
  unfold rulesF at h
  have h1 : (firstOf (ruleF l) l 0).1 = 0 := by
    by_cases e : (firstOf (ruleF l) l 0).1 = 0
    · exact e
    · rw [if_pos e] at h; exact h
  obtain ⟨_, h2, h3⟩ := itemsF_good l M seen h0
  have h4 := firstOf_good l 0 h1
  have h5 : ∀ j (hj : j < l.length), l[j].rule ≠ 0 → ¬ (whichI l l[j].first < 0 ∨ ruleB l l[j] < 0) := by
    intro j hj hr hb
    have := h4 j hj
    unfold ruleF at this
    rw [if_neg hr, if_pos hb] at this
    cases this
  refine ⟨fun j hj hk => ?_, fun j hj hr => ?_, fun j hj hr => ?_, h3⟩
  · unfold whichI
    rw [which_dist l j 0 hj h2 hk]
    simp
  · have := h5 j hj hr
    omega
  · have := h5 j hj (by rw [hr]; decide)
    unfold ruleB at this
    rw [if_pos hr] at this
    omega
theorem fine_of {l : List Ty} {T : ByteArray → Bool} (h : (checkF l T).1 = 0) : ∀ t ∈ l, Fine t.items := by
  induction l generalizing T with
  | nil => intro t ht; simp at ht
  | cons x r ih =>
    unfold checkF at h
    by_cases h1 : T x.name = true
    · rw [if_pos h1] at h; cases h
    · rw [if_neg h1] at h
      by_cases h2 : (blockF T x.items (fun _ => false) []).1.1 ≠ 0
      · rw [if_pos h2] at h; exact absurd h h2
      · rw [if_neg h2] at h
        intro t ht
        rcases List.mem_cons.1 ht with rfl | ht
        · exact ⟨T, _, _, by simpa using h2⟩
        · exact ih h t ht
/-- The program's question to an item. -/
def nxtQ (l : List It) (out : List Int) (x : It) : Bool := x.kind != 4 && (x.rule == 3 && (!decide (whichI l x.name ∈ out) && (List.range l.length).all fun k => !(overP l (whichI l x.name).toNat k && ruleAt l k == 3) || decide ((k : Int) ∈ out)))
theorem nxtQ_ok {l : List It} (hf : Fin1 l) {out : List Int} {j : Nat} (hj : j < l.length) (hr : l[j].rule ≠ 0 → l[j].kind = 1) : nxtQ l out l[j] = okAt l out j := by
  unfold nxtQ okAt
  rw [ruleAt_at hj]
  by_cases h3 : l[j].rule = 3
  · have hk : l[j].kind ≠ 4 := by rw [hr (by rw [h3]; decide)]; decide
    have hw := hf.whi j hj hk
    rw [hw, Int.toNat_natCast, show (l[j].kind != 4) = true by simpa using hk]
    have hfi := hf.fst j hj (by rw [h3]; decide)
    have e : ((List.range l.length).all fun k => !(overP l j k && ruleAt l k == 3) || decide ((k : Int) ∈ out)) = (cov l j).all fun k => decide ((k : Int) ∈ out) := by
      rw [cov_at hj]
      unfold coversF
      rw [Bool.eq_iff_iff, List.all_eq_true, List.all_eq_true]
      have key : ∀ k, k < l.length → (overP l j k && ruleAt l k == 3) = coverP l l[j] k := by
        intro k hk2
        unfold overP coverP
        rw [List.getElem?_eq_getElem hj, List.getElem?_eq_getElem hk2, ruleAt_at hk2]
        simp only [h3, BEq.rfl, Bool.true_and]
        congr 1
        rw [← Bool.decide_and]
        exact decide_eq_decide.2 ⟨fun h => ⟨hfi, h.1, h.2⟩, fun h => h.2⟩
      constructor
      · intro h k hk2
        obtain ⟨h1, h2⟩ := List.mem_filter.1 hk2
        have := h k h1
        rw [key k (List.mem_range.1 h1), h2] at this
        simpa using this
      · intro h k hk2
        rw [key k (List.mem_range.1 hk2)]
        cases hc : coverP l l[j] k with
        | false => rfl
        | true =>
          have := h k (List.mem_filter.2 ⟨hk2, hc⟩)
          simpa using this
    rw [e]
    simp
  · rw [show (l[j].rule == 3) = false by simpa using h3]
    simp
theorem idx_next {l : List It} (hf : Fin1 l) {out : List Int} (hr : ∀ j (h : j < l.length), l[j].rule ≠ 0 → l[j].kind = 1) : ∀ (k n : Nat), k + n = l.length → idxF (nxtQ l out) (l.drop k) k = nextF l out (List.range' k n) := by
  intro k n
  induction n generalizing k with
  | zero =>
    intro h
    rw [List.drop_eq_nil_iff.2 (by omega)]
    rfl
  | succ n ih =>
    intro h
    rw [idxF_step (by omega), nxtQ_ok hf (by omega) (hr k (by omega)), List.range'_succ, nextF, ih (k + 1) (by omega)]
theorem idxI_next {l : List It} (hf : Fin1 l) {out : List Int} (hr : ∀ j (h : j < l.length), l[j].rule ≠ 0 → l[j].kind = 1) : idxF (nxtQ l out) l 0 = nextF l out (List.range l.length) := by
  have := idx_next hf (out := out) hr 0 l.length (by omega)
  rw [List.drop_zero] at this
  rw [this, List.range_eq_range']
end Go.Proofs.YtkopjmofdnlplaaGreatDoor.Tm
namespace Go.Proofs.YtkopjmofdnlplaaGreatDoor.Tm
open Go.RowKit Go.Proofs.YtkopjmofdnlplaaGreatDoor.Lex Go.Proofs.YtkopjmofdnlplaaGreatDoor.Dig
def nxtP (l : List It) (out : List Int) (i k : Nat) : Bool := !(overP l i k && ruleAt l k == 3) || decide ((k : Int) ∈ out)
theorem all_step {p : Nat → Bool} {k : Nat} : (List.range (k + 1)).all p = ((List.range k).all p && p k) := by
  rw [List.range_succ, List.all_append]
  simp
theorem all_fail {p : Nat → Bool} {k n : Nat} (hk : k < n) (h : p k = false) : (List.range n).all p = false := by
  rw [Bool.eq_false_iff]
  intro h2
  have := List.all_eq_true.1 h2 k (List.mem_range.2 hk)
  rw [h] at this
  cases this
section
variable {W : World}
set_option maxRecDepth 100000 in
set_option maxHeartbeats 4000000 in
theorem next1_any (l : List It) (hl : l.length ≤ 16) (out : List Int) (ho : out.length ≤ 100) (x : It) (p a : Option Addr) (c : Nat) (v ov : Value) (b1 b2 B : Nat) (w : World) (h1 : w.cell? ⟨b1, 0, none⟩ = some v) (h2 : w.cell? ⟨b2, 0, none⟩ = some ov) (hI : ItsAt w v l) (hO : Own w B 3 ov (i64s out)) (hx : x.kind ≠ 4 → 0 ≤ whichI l x.name) :
    Calls Tryz.prog 131 #[.agg (itVals x (.pointer p) (.slice a x.items.length c)).toArray, .pointer (some ⟨b1, 0, none⟩), .pointer (some ⟨b2, 0, none⟩)] w fun e w' => e = .returned (.bool (nxtQ l out x)) ∧ Below w.heap.size w w' := by
  obtain ⟨va, vc, rfl, hvc, _⟩ := id hI
  obtain ⟨oa, oc, rfl⟩ := hO.len
  rw [i64s_len] at hO h2
  rw [show (itVals x (.pointer p) (.slice a x.items.length c)).toArray = #[.int .i64 x.kind, .int .i64 (x.at_ : Nat), .string x.name, .string x.type, .int .i64 x.width, .int .i64 x.order, .bool x.signed, .bool x.many, .pointer p, .int .i64 x.rule, .string x.first, .string x.last, .slice a x.items.length c] from rfl]
  have hB := (Below.refl w.heap.size w).alloc (Nat.le_refl _) (.cells #[.int .i64 x.kind, .int .i64 (x.at_ : Nat), .string x.name, .string x.type, .int .i64 x.width, .int .i64 x.order, .bool x.signed, .bool x.many, .pointer p, .int .i64 x.rule, .string x.first, .string x.last, .slice a x.items.length c] 78)
  have HX := Lib.hid (show IB (w.alloc (.cells #[.int .i64 x.kind, .int .i64 (x.at_ : Nat), .string x.name, .string x.type, .int .i64 x.width, .int .i64 x.order, .bool x.signed, .bool x.many, .pointer p, .int .i64 x.rule, .string x.first, .string x.last, .slice a x.items.length c] 78)) w.heap.size (itVals x (.pointer p) (.slice a x.items.length c)) from heap_alloc_new _ _)
  have HB := Lib.hid hB
  have HI := Lib.hid (hI.below hB)
  have HO := Lib.hid (hO.below hB)
  have k1 := keepCell hB h1
  have k2 := keepCell hB h2
  have hN : nxtQ l out x = (x.kind != 4 && (x.rule == 3 && (!decide (whichI l x.name ∈ out) && (List.range l.length).all (nxtP l out (whichI l x.name).toNat)))) := rfl
  obtain ⟨R, hR0⟩ : ∃ R, nxtQ l out x = R := ⟨_, rfl⟩
  rw [hR0]
  rw [hN] at hR0
  have HR := Lib.hid hR0
  clear hI hO h1 h2 hB hN hR0
  go_enter Tryz.func131, Tryz.ntmps131
  go_upto_region 1 with fail
  generalize w.alloc (.cells #[.int .i64 x.kind, .int .i64 (x.at_ : Nat), .string x.name, .string x.type, .int .i64 x.width, .int .i64 x.order, .bool x.signed, .bool x.many, .pointer p, .int .i64 x.rule, .string x.first, .string x.last, .slice a x.items.length c] 78) = w1 at *
  obtain ⟨X, hX⟩ : ∃ X, w.heap.size = X := ⟨_, rfl⟩
  rw [hX] at HX HB ⊢
  have hXe := Lib.hid hX
  clear hX
  have y0 : w1.cell? ⟨X, 0, none⟩ = some (.int .i64 x.kind) := HX.out.cell 0
  have y2 : w1.cell? ⟨X, 2, none⟩ = some (.string x.name) := HX.out.cell 2
  have y9 : w1.cell? ⟨X, 9, none⟩ = some (.int .i64 x.rule) := HX.out.cell 9
  have C1 := Lib.hid (find_any (W := w1) _ l hl x.name HI.out)
  have hw2 := whichI_lt l x.name
  obtain ⟨A, hA⟩ : ∃ y, whichI l x.name = y := ⟨_, rfl⟩
  rw [hA] at C1 hw2 hx HR
  obtain ⟨kd, hkd⟩ : ∃ y, x.kind = y := ⟨_, rfl⟩
  rw [hkd] at y0 hx HR
  obtain ⟨ru, hru⟩ : ∃ y, x.rule = y := ⟨_, rfl⟩
  rw [hru] at y9 HR
  clear hA hkd hru HX
  go_wp2_with fail
  refine (C1.out).mono ?_; rintro e w2 ⟨rfl, hb⟩
  have B2 := Lib.hid (HB.out.trans (hb.mono (by rw [← hXe.out]; exact HB.out.size)))
  have HI2 := Lib.hid (HI.out.below hb)
  have HO2 := Lib.hid (HO.out.below hb)
  have v0 := keepCell hb y0
  have v9 := keepCell hb y9
  have q1 := keepCell hb k1
  have q2 := keepCell hb k2
  clear hb C1 HI HO y0 y2 y9 k1 k2 HB
  by_cases h4 : kd = 4
  · subst h4
    clear hx
    go_wp2_with fail
    go_ret
    rw [hXe.out]
    exact ⟨by rw [← HR.out]; simp, B2.out⟩
  · have e4 : (kd == 4) = false := by simpa using h4
    have e5 : (kd != 4) = true := by simpa using h4
    rw [e5] at HR
    have hA0 := hx h4
    clear hx h4
    by_cases h3 : ru = 3
    · subst h3
      have C2 := Lib.hid (contains_any (W := w2) B _ out (by omega) HO2.out A)
      obtain ⟨m1, hm1⟩ : ∃ y, decide (A ∈ out) = y := ⟨_, rfl⟩
      rw [hm1] at C2 HR
      clear hm1
      go_wp2_with fail
      refine (C2.out).mono ?_; rintro e w3 ⟨rfl, rfl⟩
      clear C2
      cases m1 with
      | true =>
        go_wp2_with fail
        go_ret
        rw [hXe.out]
        exact ⟨by rw [← HR.out]; simp, B2.out⟩
      | false =>
        obtain ⟨i, rfl⟩ : ∃ i : Nat, A = i := ⟨A.toNat, by omega⟩
        rw [Int.toNat_natCast] at HR
        have hi : i < l.length := by omega
        go_wp2_with fail
        go_loopw [26] (fun j wr => ∃ k : Nat, j = .int .i64 k ∧ k ≤ l.length ∧ Hid ((List.range k).all (nxtP l out i) = true) ∧ Hid (Below w2.heap.size w2 wr)) (fun j _ => l.length - (intOf j).toNat)
        case atStart => exact ⟨0, rfl, Nat.zero_le _, Lib.hid rfl, Lib.hid (Below.refl _ _)⟩
        case round =>
          obtain ⟨k, rfl, hk, hw, hb⟩ := hrel
          have r1 := keepCell hb.out q1
          have r2 := keepCell hb.out q2
          have HI3 := Lib.hid (HI2.out.below hb.out)
          by_cases hlt : k < l.length
          · have C3 := Lib.hid (over_any (W := wr) _ l hl HI3.out i hi (k : Int))
            have i1 : (0 : Int) ≤ (k : Int) := by omega
            have i2 : (k : Int) < (l.length : Int) := by omega
            have hst := all_step (p := nxtP l out i) (k := k)
            rw [hw.out, Bool.true_and] at hst
            have hP : nxtP l out i k = (!(overP l i k && ruleAt l k == 3) || decide ((k : Int) ∈ out)) := rfl
            have hRS := Lib.hid (show nxtP l out i k = true → (List.range (k + 1)).all (nxtP l out i) = true from fun h => hst.trans h)
            have hRF := Lib.hid (show nxtP l out i k = false → (List.range l.length).all (nxtP l out i) = false from all_fail hlt)
            rw [ruleAt_at hlt] at hP
            obtain ⟨bo, hbo⟩ : ∃ y, overP l i k = y := ⟨_, rfl⟩
            rw [hbo] at hP C3
            clear hbo hst hw
            go_wp2_with fail
            refine (C3.out).mono ?_; rintro e w4 ⟨rfl, hb4⟩
            have B4 := Lib.hid (hb.out.trans (hb4.mono hb.out.size))
            have HI4 := Lib.hid (HI3.out.below hb4)
            have HO4 := Lib.hid (HO2.out.below B4.out)
            have s1 := keepCell hb4 r1
            have s2 := keepCell hb4 r2
            clear hb4 hb C3 HI3 r1 r2
            cases bo with
            | false =>
              have hR := Lib.hid (hRS.out (by rw [hP]; rfl))
              clear hP hRS hRF
              go_wp2_with fail
              go_roundw
              case rel => exact ⟨k + 1, by go_num, hlt, hR, B4⟩
              case measure => first | (simp [intOf]; done) | (simp [intOf]; omega)
            | true =>
              obtain ⟨b, o, cv, iv, rfl, hc, _⟩ := its_at HI4.out k hlt
              have z9 : w4.cell? ⟨b, o + k * 13 + 9, none⟩ = some (.int .i64 l[k].rule) := hc 9 _ rfl
              clear hc
              generalize l[k].rule = rk at *
              by_cases h5 : rk = 3
              · subst h5
                have C5 := Lib.hid (contains_any (W := w4) B _ out (by omega) HO4.out (k : Int))
                obtain ⟨m2, hm2⟩ : ∃ y, decide ((k : Int) ∈ out) = y := ⟨_, rfl⟩
                rw [hm2] at C5 hP
                clear hm2
                go_wp2_with fail
                refine (C5.out).mono ?_; rintro e w5 ⟨rfl, rfl⟩
                clear C5
                cases m2 with
                | true =>
                  have hR := Lib.hid (hRS.out (by rw [hP]; rfl))
                  clear hP hRS hRF
                  go_wp2_with fail
                  go_roundw
                  case rel => exact ⟨k + 1, by go_num, hlt, hR, B4⟩
                  case measure => first | (simp [intOf]; done) | (simp [intOf]; omega)
                | false =>
                  have hR := Lib.hid (hRF.out (by rw [hP]; rfl))
                  clear hP hRS hRF
                  go_wp2_with fail
                  go_ret
                  rw [hXe.out]
                  exact ⟨by rw [← HR.out, hR.out]; rfl, B2.out.trans (B4.out.mono (by rw [← hXe.out]; exact B2.out.size))⟩
              · have e6 : (rk == 3) = false := by simpa using h5
                have hR := Lib.hid (hRS.out (by rw [hP, e6]; rfl))
                clear hP hRS hRF h5
                go_wp2_with fail
                go_roundw
                case rel => exact ⟨k + 1, by go_num, hlt, hR, B4⟩
                case measure => first | (simp [intOf]; done) | (simp [intOf]; omega)
          · have i2 : ¬ (k : Int) < (l.length : Int) := by omega
            have hR := Lib.hid (show (List.range l.length).all (nxtP l out i) = true by rw [← show k = l.length by omega]; exact hw.out)
            go_wp2_with fail
            go_ret
            rw [hXe.out]
            exact ⟨by rw [← HR.out, hR.out]; rfl, B2.out.trans (hb.out.mono (by rw [← hXe.out]; exact B2.out.size))⟩
    · have e3 : (ru != 3) = true := by simpa using h3
      have e6 : (ru == 3) = false := by simpa using h3
      rw [e6] at HR
      go_wp2_with fail
      go_ret
      rw [hXe.out]
      exact ⟨by rw [← HR.out]; simp, B2.out⟩
end
end Go.Proofs.YtkopjmofdnlplaaGreatDoor.Tm
namespace Go.Proofs.YtkopjmofdnlplaaGreatDoor.Tm
open Go.RowKit Go.Proofs.YtkopjmofdnlplaaGreatDoor.Lex Go.Proofs.YtkopjmofdnlplaaGreatDoor.Dig
/-- The memory of a call of Order: the box of the items, the box of what is put. -/
structure OB (W : World) (v : Value) (ov : Value) (out : List Int) (w : World) : Prop where
  bl : Below W.heap.size W w
  b1 : w.heap[W.heap.size]? = some (.cells #[v] 68)
  b2 : w.heap[W.heap.size + 1]? = some (.cells #[ov] 57)
  ow : Own w (W.heap.size + 2) 3 ov (i64s out)
theorem OB.below {W w w' : World} {v ov : Value} {out : List Int} (h : OB W v ov out w) (hb : Below w.heap.size w w') : OB W v ov out w' :=
  ⟨h.bl.trans (hb.mono h.bl.size), (hb.block _ (Array.getElem?_eq_some_iff.1 h.b1).1).trans h.b1, (hb.block _ (Array.getElem?_eq_some_iff.1 h.b2).1).trans h.b2, h.ow.below hb⟩
theorem OB.size {W w : World} {v ov : Value} {out : List Int} (h : OB W v ov out w) : W.heap.size + 2 ≤ w.heap.size := (Array.getElem?_eq_some_iff.1 h.b2).1
theorem OB.c1 {W w : World} {v ov : Value} {out : List Int} (h : OB W v ov out w) : w.cell? ⟨W.heap.size, 0, none⟩ = some v := by unfold World.cell?; rw [h.b1]; rfl
theorem OB.c2 {W w : World} {v ov : Value} {out : List Int} (h : OB W v ov out w) : w.cell? ⟨W.heap.size + 1, 0, none⟩ = some ov ∧ w.frozen? ⟨W.heap.size + 1, 0, none⟩ = false := by
  unfold World.cell? World.frozen?
  rw [h.b2]
  exact ⟨rfl, rfl⟩
theorem cell_low {B : Nat} {w w' : World} {g : Nat} {o : Obj} (hb : Below B w w') (hg : g < B) (h : w.heap[g]? = some o) : w'.heap[g]? = some o := (hb.block g hg).trans h
/-- The list has grown; it is put into its box. -/
theorem OB.put {W w w' : World} {v ov v' : Value} {out out' : List Int} (h : OB W v ov out w) (hb : Below (W.heap.size + 2) w w') (ho : Own w' (W.heap.size + 2) 3 v' (i64s out')) : OB W v v' out' (w'.setCell ⟨W.heap.size + 1, 0, none⟩ v') := by
  refine ⟨?_, ?_, ?_, ho.setBelow (show W.heap.size + 1 < W.heap.size + 2 by omega) v'⟩
  · exact below_set (h.bl.trans (hb.mono (Nat.le_add_right _ _))) (Nat.le_succ _)
  · exact (Below.heap_setCell _ _ _ _ (show W.heap.size ≠ W.heap.size + 1 by omega)).trans (cell_low hb (by omega) h.b1)
  · have := cell_low hb (show W.heap.size + 1 < W.heap.size + 2 by omega) h.b2
    simp [World.setCell, Array.getElem?_modify, this]
def Or1R (W : World) (v : Value) (l : List It) (i : Value) (wr : World) : Prop := ∃ (k : Nat) (ov : Value), i = .int .i64 k ∧ k ≤ l.length ∧ (∃ a n c, ov = .slice a n c) ∧ Hid (OB W v ov (out0 l k) wr)
def Or2R (W : World) (v : Value) (l : List It) (g : Nat) (wr : World) : Prop := ∃ (out : List Int) (ov : Value), (∃ a n c, ov = .slice a n c) ∧ Hid (OB W v ov out wr) ∧ Hid (ord l out = ord l (out0 l l.length)) ∧ out.length + lft l.length out ≤ 32 ∧ g = lft l.length out
theorem out0_len (l : List It) (n : Nat) : (out0 l n).length ≤ n := by
  unfold out0
  rw [List.length_map]
  exact Nat.le_trans (List.length_filter_le _ _) (by rw [List.length_range]; exact Nat.le_refl _)
theorem lft_le (n : Nat) (out : List Int) : lft n out ≤ n := Nat.le_trans (List.length_filter_le _ _) (by rw [List.length_range]; exact Nat.le_refl _)
section
variable {W : World}
set_option maxRecDepth 100000 in
set_option maxHeartbeats 4000000 in
theorem order_any (v : Value) (l : List It) (hl : l.length ≤ 16) (h : ItsAt W v l) (hf : Fin1 l) (hr : ∀ j (h : j < l.length), l[j].rule ≠ 0 → l[j].kind = 1) : Calls Tryz.prog 97 #[v] W fun e w' => ∃ u, e = .returned u ∧ Own w' W.heap.size 3 u (i64s (ord l (out0 l l.length))) ∧ Below W.heap.size W w' := by
  obtain ⟨a, cap, rfl, hcap, _⟩ := id h
  have HI := Lib.hid h
  have hx : ∀ x ∈ l, x.kind ≠ 4 → 0 ≤ whichI l x.name := by
    intro x hxl hk
    obtain ⟨j, hj, rfl⟩ := List.getElem_of_mem hxl
    rw [hf.whi j hj hk]
    omega
  have HXX := Lib.hid hx
  have HNX := Lib.hid (fun out => idxI_next (l := l) hf (out := out) hr)
  clear h hf hr hx
  go_enter Tryz.func97, Tryz.ntmps97
  go_upto_region 2 with fail
  have m0 := Lib.hid (show OB W (.slice a l.length cap) (.slice none 0 0) (out0 l 0) ((W.alloc (.cells #[.slice a l.length cap] 68)).alloc (.cells #[.slice none 0 0] 57)) from ⟨((Below.refl _ _).alloc (Nat.le_refl _) _).alloc (by simp) _, (heap_alloc_old _ _ (by simp)).trans (heap_alloc_new _ _), heap_alloc_at _ _ (by simp), own_nil _ _ _⟩)
  generalize ((W.alloc (.cells #[.slice a l.length cap] 68)).alloc (.cells #[.slice none 0 0] 57)) = w0 at *
  have k1 := m0.out.c1
  go_wp2_with fail
  go_loopw [8] (fun i wr => Or1R W (.slice a l.length cap) l i wr) (fun i _ => l.length - (intOf i).toNat)
  case atStart => exact ⟨0, _, rfl, Nat.zero_le _, ⟨_, _, _, rfl⟩, m0⟩
  case round =>
    clear m0 k1
    obtain ⟨k, ov, rfl, hk, ⟨oa, on, oc, rfl⟩, hB⟩ := hrel
    have k1 := hB.out.c1
    obtain ⟨k2, f2⟩ := hB.out.c2
    by_cases hlt : k < l.length
    · obtain ⟨b, o, cv, iv, rfl, hc, _⟩ := its_at (HI.out.below hB.out.bl) k hlt
      have i1 : (0 : Int) ≤ (k : Int) := by omega
      have i2 : (k : Int) < (l.length : Int) := by omega
      have z9 : wr.cell? ⟨b, o + k * 13 + 9, none⟩ = some (.int .i64 l[k].rule) := hc 9 _ rfl
      have hst := Lib.hid (out0_step l k)
      have hol := out0_len l k
      rw [ruleAt_at hlt] at hst
      clear hc
      generalize l[k].rule = ru at *
      by_cases h1 : ru = 1
      · subst h1
        have hM := Lib.hid (hst.out.trans (if_pos (by simp)))
        clear hst
        go_wp2_with (at_builtin; refine own_append1 rfl _ _ 57 rfl (W.heap.size + 2) 3 (.int .i64 0) 8 Tryz.underlying57 (by kernel_rfl) rfl (.slice oa on oc) _ rfl (hB.out.ow.alloc _) _ 1 _ rfl (new_cell _ _ _) rfl (by rw [i64s_len]; omega) (by rw [i64s_len]; omega) (le_alloc hB.out.size _) ?_; intro v1 w3 ho1 hg1 hb1 hat1; rw [i64s_snoc, ← hM.out] at ho1; have hAB := ((Below.refl (W.heap.size + 2) wr).alloc hB.out.size (.cells #[.int .i64 (k : Nat)] 3)).trans hb1; have HPT := Lib.hid (hB.out.put hAB ho1); obtain ⟨a6, c6, e6⟩ := ho1.len; subst e6; have hbk := cell_low hAB (show W.heap.size + 1 < W.heap.size + 2 by omega) hB.out.b2; have k3 : w3.cell? ⟨W.heap.size + 1, 0, none⟩ = some (.slice oa on oc) := (by unfold World.cell?; rw [hbk]; rfl); have f3 : w3.frozen? ⟨W.heap.size + 1, 0, none⟩ = false := (by unfold World.frozen?; rw [hbk]; rfl); clear hg1 hb1 hat1 ho1 hAB hbk)
        go_roundw
        case rel => exact ⟨k + 1, _, by go_num, hlt, ⟨_, _, _, rfl⟩, HPT⟩
        case measure => first | (simp [intOf]; done) | (simp [intOf]; omega)
      · have e1 : (ru == 1) = false := by simpa using h1
        by_cases h2 : ru = 2
        · subst h2
          have hM := Lib.hid (hst.out.trans (if_pos (by simp)))
          clear hst
          go_wp2_with (at_builtin; refine own_append1 rfl _ _ 57 rfl (W.heap.size + 2) 3 (.int .i64 0) 8 Tryz.underlying57 (by kernel_rfl) rfl (.slice oa on oc) _ rfl (hB.out.ow.alloc _) _ 1 _ rfl (new_cell _ _ _) rfl (by rw [i64s_len]; omega) (by rw [i64s_len]; omega) (le_alloc hB.out.size _) ?_; intro v1 w3 ho1 hg1 hb1 hat1; rw [i64s_snoc, ← hM.out] at ho1; have hAB := ((Below.refl (W.heap.size + 2) wr).alloc hB.out.size (.cells #[.int .i64 (k : Nat)] 3)).trans hb1; have HPT := Lib.hid (hB.out.put hAB ho1); obtain ⟨a6, c6, e6⟩ := ho1.len; subst e6; have hbk := cell_low hAB (show W.heap.size + 1 < W.heap.size + 2 by omega) hB.out.b2; have k3 : w3.cell? ⟨W.heap.size + 1, 0, none⟩ = some (.slice oa on oc) := (by unfold World.cell?; rw [hbk]; rfl); have f3 : w3.frozen? ⟨W.heap.size + 1, 0, none⟩ = false := (by unfold World.frozen?; rw [hbk]; rfl); clear hg1 hb1 hat1 ho1 hAB hbk)
          go_roundw
          case rel => exact ⟨k + 1, _, by go_num, hlt, ⟨_, _, _, rfl⟩, HPT⟩
          case measure => first | (simp [intOf]; done) | (simp [intOf]; omega)
        · have e2 : (ru == 2) = false := by simpa using h2
          have hM := Lib.hid (hst.out.trans (if_neg (by rw [e1, e2]; decide)))
          clear hst h1 h2
          go_wp2_with fail
          go_roundw
          case rel => exact ⟨k + 1, _, by go_num, hlt, ⟨_, _, _, rfl⟩, by rw [hM.out]; exact hB⟩
          case measure => first | (simp [intOf]; done) | (simp [intOf]; omega)
    · have i2 : ¬ (k : Int) < (l.length : Int) := by omega
      obtain rfl : k = l.length := by omega
      have hol := out0_len l l.length
      have hlf := lft_le l.length (out0 l l.length)
      clear hlt hk k1 k2 f2
      go_wp2_with fail
      go_loopg [] (lft l.length (out0 l l.length)) (fun g wr => Or2R W (.slice a l.length cap) l g wr)
      case atStart => exact ⟨_, _, ⟨_, _, _, rfl⟩, hB, Lib.hid rfl, by omega, rfl⟩
      case round =>
        clear hB hol hlf
        obtain ⟨out, ov, ⟨oa, on, oc, rfl⟩, hB, hO, hlen, hg⟩ := hrel
        have k1 := hB.out.c1
        obtain ⟨k2, f2⟩ := hB.out.c2
        have hI2 := HI.out.below hB.out.bl
        have HC := Lib.hid (indexFunc_any (W := wr) _ l (by omega) hI2 131 #[.pointer (some ⟨W.heap.size, 0, none⟩), .pointer (some ⟨W.heap.size + 1, 0, none⟩)] (nxtQ l out)
          (fun x p a2 c2 w hxm hbw _ => next1_any l hl out (by omega) x p a2 c2 _ _ W.heap.size (W.heap.size + 1) (W.heap.size + 2) w (keepCell hbw k1) (keepCell hbw k2) (hI2.below hbw) (hB.out.ow.below hbw) (HXX.out x hxm)) (enters_of Tryz.func131 (by kernel_rfl) rfl))
        have hix : idxI (nxtQ l out) l = (match nextF l out (List.range l.length) with | some k => (k : Int) | none => -1) := by unfold idxI; first | (rw [HNX.out out]; done) | (rw [HNX.out out]; rfl)
        rw [hix] at HC
        have hNN := Lib.hid (fun (h : nextF l out (List.range l.length) = none) => ord_none h)
        have hNS := Lib.hid (fun j (h : nextF l out (List.range l.length) = some j) => ord_some h)
        have hNM := Lib.hid (fun j (h : nextF l out (List.range l.length) = some j) => nextF_mem _ _ h)
        clear hix hI2
        generalize nextF l out (List.range l.length) = nx at *
        cases nx with
        | none =>
          have hR := Lib.hid (hO.out.symm.trans (hNN.out rfl))
          simp only at HC
          clear hNN hNS hNM
          go_wp2_with fail
          refine (HC.out).mono ?_; rintro e w3 ⟨rfl, hb⟩
          have B3 := Lib.hid (hB.out.below hb)
          obtain ⟨k3, f3⟩ := B3.out.c2
          clear hb HC
          go_wp2_with fail
          go_ret
          exact ⟨_, rfl, by rw [hR.out]; exact B3.out.ow.base (Nat.le_add_right _ _), B3.out.bl⟩
        | some j =>
          have hS := Lib.hid (hNS.out j rfl)
          obtain ⟨hj1, hj2⟩ := hNM.out j rfl
          have hj := List.mem_range.1 hj1
          have hlp := lft_put hj (okAt_out hj2)
          simp only at HC
          clear hNN hNS hNM hj1 hj2
          go_wp2_with fail
          refine (HC.out).mono ?_; rintro e w3 ⟨rfl, hb⟩
          have B3 := Lib.hid (hB.out.below hb)
          obtain ⟨k3, f3⟩ := B3.out.c2
          have nj : ¬ (j : Int) < 0 := by omega
          clear hb HC hB
          go_wp2_with (at_builtin; refine own_append1 rfl _ _ 57 rfl (W.heap.size + 2) 3 (.int .i64 0) 8 Tryz.underlying57 (by kernel_rfl) rfl (.slice oa on oc) _ rfl (B3.out.ow.alloc _) _ 1 _ rfl (new_cell _ _ _) rfl (by rw [i64s_len]; omega) (by rw [i64s_len]; omega) (le_alloc B3.out.size _) ?_; intro v1 w4 ho1 hg1 hb1 hat1; rw [i64s_snoc] at ho1; have hAB := ((Below.refl (W.heap.size + 2) w3).alloc B3.out.size (.cells #[.int .i64 (j : Nat)] 3)).trans hb1; have HPT := Lib.hid (B3.out.put hAB ho1); obtain ⟨a6, c6, e6⟩ := ho1.len; subst e6; have hbk := cell_low hAB (show W.heap.size + 1 < W.heap.size + 2 by omega) B3.out.b2; have k4 : w4.cell? ⟨W.heap.size + 1, 0, none⟩ = some (.slice oa on oc) := (by unfold World.cell?; rw [hbk]; rfl); have f4 : w4.frozen? ⟨W.heap.size + 1, 0, none⟩ = false := (by unfold World.frozen?; rw [hbk]; rfl); clear hg1 hb1 hat1 ho1 hAB hbk)
          go_roundg (lft l.length (out ++ [(j : Int)]))
          case measure => omega
          case rel => exact ⟨_, _, ⟨_, _, _, rfl⟩, HPT, Lib.hid (hS.out.symm.trans hO.out), by rw [List.length_append, List.length_singleton]; omega, rfl⟩
end
end Go.Proofs.YtkopjmofdnlplaaGreatDoor.Tm
