/-
  PROVED HERE: the contracts of the program's formOf, caught and what it defers; the contracts of the program's caught, and of its Read; the contract of the program's Read. Conditions: as each theorem states.
-/
import Derived.Test.YtkopjmofdnlplaaGreatDoorLyR
import Derived.Test.YtkopjmofdnlplaaGreatDoorLyU
import Derived.Test.YtkopjmofdnlplaaGreatDoorRig
import Derived.Defers
import Derived.Recover
namespace Go.Proofs.YtkopjmofdnlplaaGreatDoor.Ly
open Go.RowKit Go.Proofs.YtkopjmofdnlplaaGreatDoor.Tm
theorem pone_all {W0 : World} {ts : List Ty} {fm : Value} {s : ByteArray} (hFm : FmW W0 ts fm) (hwf : ∀ t ∈ ts, WfL t.items ∧ t.items.length ≤ 16) : ∀ m, OneQ W0 ts fm s m := by
  intro m
  induction m with
  | zero =>
    intro G mo σ f K W x xb xo P _ _ hm _
    have := P.k
    omega
  | succ m ih => exact pone_any hFm hwf (pitems_any ih)
/-! ### Structs by their names -/
def Uniq (l : List Ty) : Prop := ∀ k (h : k < l.length), findT (l.take k) l[k].name = none
theorem checkF_uniq : ∀ (l : List Ty) (T : ByteArray → Bool), (checkF l T).1 = 0 → ∀ k (h : k < l.length), T l[k].name = false ∧ findT (l.take k) l[k].name = none := by
  intro l
  induction l with
  | nil => intro T _ k h; simp at h
  | cons t r ih =>
    intro T h0 k h
    unfold checkF at h0
    split at h0
    · exact absurd h0 (show ¬ (9 : Int) = 0 by decide)
    · rename_i hT
      split at h0
      · rename_i hb; exact absurd h0 hb
      · have h1 := ih _ h0
        cases k with
        | zero => exact ⟨by simpa using hT, rfl⟩
        | succ k =>
          have hk : k < r.length := by simpa using h
          obtain ⟨h2, h3⟩ := h1 k hk
          rw [List.getElem_cons_succ, List.take_succ_cons]
          have hne : ¬ r[k].name = t.name := by
            intro e
            unfold Tm.putM at h2
            rw [e] at h2
            simp at h2
          refine ⟨?_, ?_⟩
          · unfold Tm.putM at h2
            rw [if_neg hne] at h2
            exact h2
          · unfold findT
            rw [List.find?_cons, decide_eq_false (fun e => hne e.symm)]
            exact h3
theorem findT_take {l : List Ty} {k : Nat} (h : k < l.length) (hu : Uniq l) (y : ByteArray) : findT (l.take (k + 1)) y = if l[k].name = y then some l[k] else findT (l.take k) y := by
  rw [List.take_succ_eq_append_getElem h]
  unfold findT
  rw [List.find?_append]
  by_cases e : l[k].name = y
  · have h0 : List.find? (fun t => decide (t.name = y)) (List.take k l) = none := by rw [← e]; exact hu k h
    rw [if_pos e, h0, List.find?_cons, decide_eq_true e]
    rfl
  · rw [if_neg e, List.find?_cons, decide_eq_false e]
    simp
def FmM (W0 : World) (l : List Ty) (M : ByteArray → Option Value) : Prop := ∀ y, (findT l y = none → M y = none) ∧ ∀ t, findT l y = some t → ∃ a m c, M y = some (.slice a m c) ∧ ItsAt W0 (.slice a m c) t.items
theorem fmM_put {W0 : World} {l : List Ty} {M : ByteArray → Option Value} {k : Nat} (h : FmM W0 (l.take k) M) (hk : k < l.length) (hu : Uniq l) {a : Option Addr} {m c : Nat} (hi : ItsAt W0 (.slice a m c) l[k].items) : FmM W0 (l.take (k + 1)) (Rmp.putM M l[k].name (.slice a m c)) := by
  intro y
  rw [findT_take hk hu]
  unfold Rmp.putM
  by_cases e : y = l[k].name
  · rw [if_pos e.symm, if_pos e]
    refine ⟨fun h => (by cases h), fun t ht => ?_⟩
    injection ht with ht
    subst ht
    exact ⟨a, m, c, rfl, hi⟩
  · rw [if_neg (fun q => e q.symm), if_neg e]
    exact h y
def FoP (W : World) (l : List Ty) (w : World) (e : Ending) (w' : World) : Prop := ∃ b n M, e = .returned (.map (some b)) ∧ Below w.heap.size w w' ∧ w.heap.size ≤ b ∧ Rmp.Rm w' b n M ∧ FmM W l M
section
variable {W : World}
set_option maxRecDepth 100000 in
set_option maxHeartbeats 4000000 in
theorem formOf_any (v : Value) (l : List Ty) (h8 : l.length ≤ 8) (h : TysAt W v l) (hw : ∀ t ∈ l, TyOk t) (hu : Uniq l) (w : World) (hb0 : Below W.heap.size W w) : Calls Tryz.prog 37 #[v] w (FoP W l w) := by
  obtain ⟨a, cap, rfl, hcap, _⟩ := id h
  have HI := Lib.hid h
  have HW := Lib.hid hw
  have HU := Lib.hid hu
  have HB0 := Lib.hid hb0
  have hmm := @run_makeMap Tryz.prog
  have m0 := Lib.hid (show Below w.heap.size w (w.alloc (.map #[] 0)) ∧ Rmp.Rm (w.alloc (.map #[] 0)) w.heap.size 0 (fun _ => none) ∧ FmM W (l.take 0) (fun _ => none) from ⟨(Below.refl _ _).alloc (Nat.le_refl _) _, Rmp.rm_new w, fun y => ⟨fun _ => rfl, fun t ht => by cases ht⟩⟩)
  clear h hw hu hb0
  go_enter Tryz.func37, Tryz.ntmps37
  go_upto_region 2 with fail
  generalize w.alloc (.map #[] 0) = w0 at *
  obtain ⟨b, hbe⟩ : ∃ b, w.heap.size = b := ⟨_, rfl⟩
  have HBe := Lib.hid hbe
  rw [hbe] at m0 ⊢
  clear hmm hbe
  go_wp2_with fail
  go_loopw [9] (fun i wr => ∃ (k : Nat) (M : ByteArray → Option Value), i = .int .i64 (k : Nat) ∧ k ≤ l.length ∧ Hid (Below b w wr ∧ Rmp.Rm wr b k M ∧ FmM W (l.take k) M)) (fun i _ => l.length - (intOf i).toNat)
  case atStart => exact ⟨0, _, rfl, Nat.zero_le _, m0⟩
  case round =>
    clear m0
    obtain ⟨k, M, rfl, hk, hS⟩ := hrel
    by_cases hlt : k < l.length
    · obtain ⟨bb, o, iv, rfl, z0, z1, z2, hit⟩ := tys_at HI.out k hlt
      obtain ⟨a12, c12, rfl, hcap12, _⟩ := id hit
      have i1 : (0 : Int) ≤ (k : Int) := by omega
      have i2 : (k : Int) < (l.length : Int) := by omega
      have hnm := (HW.out l[k] (List.getElem_mem hlt)).2.2.1
      obtain ⟨hB, hR, hF⟩ := hS.out
      have hB1 : Below W.heap.size W wr := HB0.out.trans ((HBe.out.symm ▸ hB).mono HB0.out.size)
      have HF2 := Lib.hid (fmM_put hF hlt HU.out hit)
      replace z0 := keepCell hB1 z0
      replace z1 := keepCell hB1 z1
      replace z2 := keepCell hB1 z2
      have hblt : b < wr.heap.size := hR.lt
      have HB2 := Lib.hid hB
      have HR2 := Lib.hid hR
      clear hit hB hR hF hB1 hS
      generalize l[k] = x at *
      obtain ⟨n12, hn12⟩ : ∃ n, x.items.length = n := ⟨_, rfl⟩
      rw [hn12] at z2 HF2 hcap12
      clear hn12
      go_upto_region 5 with fail
      have bA : Below wr.heap.size wr (wr.alloc (.cells #[.string x.name, .int .i64 (x.at_ : Nat), .slice a12 n12 c12] 122)) := (Below.refl _ _).alloc (Nat.le_refl _) _
      have iA : (wr.alloc (.cells #[.string x.name, .int .i64 (x.at_ : Nat), .slice a12 n12 c12] 122)).heap[wr.heap.size]? = some (.cells #[.string x.name, .int .i64 (x.at_ : Nat), .slice a12 n12 c12] 122) := heap_alloc_new _ _
      generalize wr.alloc (.cells #[.string x.name, .int .i64 (x.at_ : Nat), .slice a12 n12 c12] 122) = w1 at *
      obtain ⟨X, hX⟩ : ∃ X, wr.heap.size = X := ⟨_, rfl⟩
      rw [hX] at iA hblt ⊢
      have y0 : w1.cell? ⟨X, 0, none⟩ = some (.string x.name) := by unfold World.cell?; rw [iA]; rfl
      have y2 : w1.cell? ⟨X, 2, none⟩ = some (.slice a12 n12 c12) := by unfold World.cell?; rw [iA]; rfl
      obtain ⟨w2, hput, hR3, hg3⟩ := (HR2.out.below bA).put (t := 82) (e := 68) Tryz.underlying82 (by omega) x.name (by unfold maxLen; omega) (.slice a12 n12 c12)
      have HB3 := Lib.hid (show Below b w w2 from by
        have h1 := HB2.out.trans (bA.mono (by have := HBe.out; have := HB2.out.size; omega))
        exact ⟨hg3.os.trans h1.os, hg3.tape.trans h1.tape, hg3.output.trans h1.output, Nat.le_trans h1.size hg3.size, fun q hq => (hg3.block q (by have := h1.size; have := HBe.out; omega) (fun e => by injection e with e; omega)).trans (h1.block q hq)⟩)
      have HR3 := Lib.hid hR3
      clear bA iA hX hR3 hg3 z0 z1 z2 HR2 HB2
      go_wp2_with fail
      go_roundw
      case rel => exact ⟨k + 1, _, by go_num, hlt, Lib.hid ⟨HB3.out, HR3.out, HF2.out⟩⟩
      case measure => first | (simp [intOf]; done) | (simp [intOf]; omega)
    · have i2 : ¬ (k : Int) < (l.length : Int) := by omega
      obtain ⟨hB, hR, hF⟩ := hS.out
      rw [List.take_of_length_le (by omega)] at hF
      have HB3 := Lib.hid hB
      have HR3 := Lib.hid hR
      have HF3 := Lib.hid hF
      clear hB hR hF hS
      go_wp2_with fail
      go_ret
      exact ⟨_, _, _, rfl, by rw [HBe.out]; exact HB3.out, Nat.le_of_eq HBe.out, HR3.out, HF3.out⟩
end
end Go.Proofs.YtkopjmofdnlplaaGreatDoor.Ly
namespace Go.Proofs.YtkopjmofdnlplaaGreatDoor.Ly
open Go.RowKit Go.Proofs.YtkopjmofdnlplaaGreatDoor.Tm
set_option maxRecDepth 100000 in
theorem caught_thrown (p : Addr) (x : Value) (T : TypeId) (u : Value) (w : World) (hc : w.cell? p = some x) (hz : w.frozen? p = false) :
    CallsD Tryz.prog 77 #[.pointer (some p)] (.panicking [{ v := .iface 135 (.agg #[.iface T u]), recovered := false }]) w fun e u' w' =>
      e = .returned (.tuple #[]) ∧ u' = .panicking [{ v := .iface 135 (.agg #[.iface T u]), recovered := true }] ∧ w' = (w.alloc (.cells #[.iface T u] 135)).setCell p (.iface T u) := by
  have hp : p.block < w.heap.size := World.block_lt_of_cell? w p hc
  have hta : ∀ (v : Value) (w : World), (Instr.typeAssert (.iface 135 v) 20 135 true).run Tryz.prog w = .ok (.tuple #[v, .bool true]) w := fun _ _ => rfl
  refine callsD_of_wpS Tryz.func77 rfl fun c₀ cs hu => ?_
  apply wpS_seq
  apply wpS_region
  simp [wpOpsS, go_sem, recoverD, hu, Tryz.ntmps77, Exit.thenS]
  apply wpS_seq
  apply wpS_region
  simp [wpOpsS, go_sem, Exit.thenS]
  refine wpS_cond (t := true) (by simp [Act.eval, Array.replicate]) ?_
  simp only [if_true]
  apply wpS_seq
  apply wpS_region
  simp [wpOpsS, go_sem, Exit.thenS, Array.replicate, hta]
  apply wpS_seq
  apply wpS_seq
  apply wpS_region
  simp [wpOpsS, go_sem, Exit.thenS]
  refine wpS_cond (t := false) (by simp [Act.eval]) ?_
  simp only [Bool.false_eq_true, if_false]
  refine wpS_of_wp (wp_skip ?_)
  simp only [Exit.thenS]
  apply wpS_region
  have hc' := (World.cell?_alloc_lt w (.cells #[.iface T u] 135) p hp).trans hc
  have hz' : (w.alloc (.cells #[.iface T u] 135)).frozen? p = false := (World.frozen?_alloc_old w _ p (Nat.ne_of_lt hp)).trans hz
  simp [wpOpsS, go_sem, hc', hz', bodyPostS, results, Tryz.results77]
set_option maxRecDepth 100000 in
theorem caught_idle (p : Addr) (w : World) :
    CallsD Tryz.prog 77 #[.pointer (some p)] .returning w fun e u' w' => e = .returned (.tuple #[]) ∧ u' = .returning ∧ w' = w := by
  refine callsD_of_wpS Tryz.func77 rfl fun c₀ cs hu => ?_
  apply wpS_seq
  apply wpS_region
  simp [wpOpsS, go_sem, recoverD, hu, Tryz.ntmps77, Exit.thenS]
  apply wpS_seq
  apply wpS_region
  simp [wpOpsS, go_sem, Exit.thenS]
  refine wpS_cond (t := false) (by simp [Act.eval, Array.replicate]) ?_
  simp only [Bool.false_eq_true, if_false]
  refine wpS_of_wp (wp_skip ?_)
  cases c₀
  simp_all [bodyPostS, results, Tryz.results77]

/-- What a function that may throw leaves. -/
def ThrP (S : Nat → Prop) (A : World → Prop) (c a : Int) (W : World) (e : Ending) (w' : World) : Prop := Gr S W w' ∧ ((c = 0 ∧ e = .returned (.tuple #[]) ∧ A w') ∨ PThr w' c a e)
def CaP (S : Nat → Prop) (A : World → Prop) (c a : Int) (W : World) (e : Ending) (w' : World) : Prop := ∃ ev, e = .returned ev ∧ Gr S W w' ∧ ((c = 0 ∧ ev = .nilIface ∧ A w') ∨ (c ≠ 0 ∧ Err.ErrIs w' ev c a ∧ ∃ T u, ev = .iface T u))
set_option maxRecDepth 100000 in
set_option maxHeartbeats 2000000 in
theorem caught_any (p0 p1 p2 p3 : Value) (S : Nat → Prop) (A : World → Prop) (c a : Int) (W : World) (hS : ∀ k, S k → k < W.heap.size) (hA : ∀ w w', A w → Gr (fun k => k = W.heap.size) w w' → A w')
    (H : ∀ w, Below W.heap.size W w → W.heap.size < w.heap.size → Calls Tryz.prog 39 #[p0, p1, p2, p3] w (ThrP S A c a w)) : Calls Tryz.prog 38 #[.func (.func 39) #[] #[p0, p1, p2, p3]] W (CaP S A c a W) := by
  have HS := Lib.hid hS
  have HA := Lib.hid hA
  have HH := Lib.hid H
  have hmf : ∀ (fn : Fn) (first cap : Array Value) (w : World), (Instr.makeFunc fn first cap).run Tryz.prog w = .ok (.func fn first cap) w := fun _ _ _ _ => rfl
  clear hS hA H
  have bA : Below W.heap.size W (W.alloc (.cells #[.nilIface] 34)) := (Below.refl _ _).alloc (Nat.le_refl _) _
  have iA : (W.alloc (.cells #[.nilIface] 34)).heap[W.heap.size]? = some (.cells #[.nilIface] 34) := heap_alloc_new _ _
  go_enter_defers Tryz.func38, Tryz.ntmps38
  go_upto_region 2 with fail
  generalize W.alloc (.cells #[.nilIface] 34) = w0 at *
  have C := Lib.hid (HH.out w0 bA (Array.getElem?_eq_some_iff.1 iA).1)
  have BA := Lib.hid bA
  have IA := Lib.hid iA
  clear bA iA
  go_wp2_with fail
  refine (C.out).mono ?_; rintro e' w1 ⟨hg, h1⟩
  have hnS : ¬ S W.heap.size := fun h => Nat.lt_irrefl _ (HS.out _ h)
  have e1 := (hg.block W.heap.size (Array.getElem?_eq_some_iff.1 IA.out).1 hnS).trans IA.out
  have E1 := Lib.hid e1
  have c0 : w1.cell? ⟨W.heap.size, 0, none⟩ = some .nilIface := by unfold World.cell?; rw [e1]; rfl
  have z0 : w1.frozen? ⟨W.heap.size, 0, none⟩ = false := by unfold World.frozen?; rw [e1]; rfl
  have G1 := Lib.hid (show Gr S W w1 from (Gr.below BA.out).trans hg)
  clear C e1 hg
  rcases h1 with ⟨hc, rfl, hAw⟩ | ⟨hn, ev, rfl, he⟩
  · have HAw := Lib.hid (HA.out w1 (w1.setCell ⟨W.heap.size, 0, none⟩ .nilIface) hAw (Gr.of gb_set rfl))
    have HC := Lib.hid hc
    have e2 : (w1.setCell ⟨W.heap.size, 0, none⟩ .nilIface).cell? ⟨W.heap.size, 0, none⟩ = some .nilIface := World.cell?_setCell_same _ _ _ c0
    clear hAw hc
    go_wp2_with fail
    refine leaves_cons (f := 77) (args := #[.pointer (some ⟨W.heap.size, 0, none⟩)]) (by simp) (by simp [go_sem]) ?_
    refine (caught_idle ⟨W.heap.size, 0, none⟩ _).mono ?_
    rintro e u' w'' ⟨rfl, rfl, rfl⟩
    simp [Leaves, settle, results, Tryz.results38, go_sem, e2]
    exact ⟨.nilIface, rfl, Gr.low G1.out (Gr.of (S := fun k => k = W.heap.size) gb_set rfl) (fun k hk hs => by omega), .inl ⟨HC.out, rfl, HAw.out⟩⟩
  · obtain ⟨T, u, rfl⟩ := err_iface he hn
    have bB : Below w1.heap.size w1 (w1.alloc (.cells #[.iface T u] 135)) := (Below.refl _ _).alloc (Nat.le_refl _) _
    have hl := (Array.getElem?_eq_some_iff.1 E1.out).1
    have e3 : (w1.alloc (.cells #[.iface T u] 135)).heap[W.heap.size]? = some (.cells #[.nilIface] 34) := (heap_alloc_old _ _ hl).trans E1.out
    have HE := Lib.hid (err_set (x := .iface T u) (he.below bB) e3)
    have e2 : ((w1.alloc (.cells #[.iface T u] 135)).setCell ⟨W.heap.size, 0, none⟩ (.iface T u)).cell? ⟨W.heap.size, 0, none⟩ = some (.iface T u) := World.cell?_setCell_same (u := .nilIface) _ _ _ (by unfold World.cell?; rw [e3]; rfl)
    have HG := Lib.hid (show Gr S W ((w1.alloc (.cells #[.iface T u] 135)).setCell ⟨W.heap.size, 0, none⟩ (.iface T u)) from Gr.low (G1.out.trans (Gr.below bB)) (Gr.of (S := fun k => k = W.heap.size) gb_set rfl) (fun k hk hs => by omega))
    clear he bB e3
    unfold thrown
    go_wp2_with fail
    refine leaves_cons (f := 77) (args := #[.pointer (some ⟨W.heap.size, 0, none⟩)]) (by simp) (by simp [go_sem]) ?_
    refine (caught_thrown ⟨W.heap.size, 0, none⟩ .nilIface T u _ c0 z0).mono ?_
    rintro e u' w'' ⟨rfl, rfl, rfl⟩
    simp [Leaves, settle, results, Tryz.results38, go_sem, e2]
    exact ⟨_, rfl, HG.out, .inr ⟨hn, HE.out, _, _, rfl⟩⟩
end Go.Proofs.YtkopjmofdnlplaaGreatDoor.Ly
namespace Go.Proofs.YtkopjmofdnlplaaGreatDoor.Ly
open Go.RowKit Go.Proofs.YtkopjmofdnlplaaGreatDoor.Tm
/-- What the program's Read answers. -/
def PrP (N : Nd × Int × Int) (W : World) (e : Ending) (w' : World) : Prop :=
  ∃ kv ev, e = .returned (.tuple #[.agg (ndVals N.1 kv).toArray, ev]) ∧ Err.ErrIs w' ev N.2.1 N.2.2 ∧ Below W.heap.size W w' ∧ NdAt w' N.1 kv ∧ ∃ a m c, kv = .slice a m c
/-- The boxes of the two texts, and of the result. -/
structure R3 (W : World) (root s : ByteArray) (w : World) : Prop where
  bl : Below W.heap.size W w
  b0 : w.heap[W.heap.size]? = some (.cells #[.string root] 9)
  b1 : w.heap[W.heap.size + 1]? = some (.cells #[.string s] 9)
  b2 : NB w (W.heap.size + 2) nd0
theorem R3.below {W w w' : World} {root s : ByteArray} (h : R3 W root s w) (hb : Below w.heap.size w w') : R3 W root s w' := by
  have h0 := (Array.getElem?_eq_some_iff.1 h.b0).1
  have h1 := (Array.getElem?_eq_some_iff.1 h.b1).1
  exact ⟨h.bl.trans (hb.mono h.bl.size), (hb.block _ h0).trans h.b0, (hb.block _ h1).trans h.b1, h.b2.gr (Gr.below (S := fun _ => False) hb) id⟩
theorem R3.gr {W w w' : World} {root s : ByteArray} {S : Nat → Prop} (h : R3 W root s w) (g : Gr S w w') (hS : ∀ k, S k → W.heap.size + 2 < k) : R3 W root s w' := by
  have h0 := (Array.getElem?_eq_some_iff.1 h.b0).1
  have h1 := (Array.getElem?_eq_some_iff.1 h.b1).1
  exact ⟨Gr.to_below h.bl g h.bl.size (fun k hk hs => by have := hS k hs; omega), (g.block _ h0 (fun hs => by have := hS _ hs; omega)).trans h.b0, (g.block _ h1 (fun hs => by have := hS _ hs; omega)).trans h.b1, h.b2.gr g (fun hs => by have := hS _ hs; omega)⟩
theorem R3.lt {W w : World} {root s : ByteArray} (h : R3 W root s w) : W.heap.size + 2 < w.heap.size := h.b2.lt
theorem R3.start (W : World) (root s : ByteArray) : R3 W root s (((W.alloc (.cells #[.string root] 9)).alloc (.cells #[.string s] 9)).alloc (.cells #[.string ⟨#[]⟩, .int .i64 0, .int .i64 0, .int .i64 0, .int .i64 0, .string ⟨#[]⟩, .slice none 0 0] 27)) := by
  have s1 : (W.alloc (.cells #[.string root] 9)).heap.size = W.heap.size + 1 := by simp
  have s2 : ((W.alloc (.cells #[.string root] 9)).alloc (.cells #[.string s] 9)).heap.size = W.heap.size + 2 := by simp
  refine ⟨(((Below.refl _ _).alloc (Nat.le_refl _) _).alloc (by omega) _).alloc (by omega) _, ?_, ?_, ?_⟩
  · rw [heap_alloc_old _ _ (by omega), heap_alloc_old _ _ (by omega)]
    exact heap_alloc_new _ _
  · rw [heap_alloc_old _ _ (by omega)]
    have := heap_alloc_new (W.alloc (.cells #[.string root] 9)) (.cells #[.string s] 9)
    rwa [s1] at this
  · have := NB.new ((W.alloc (.cells #[.string root] 9)).alloc (.cells #[.string s] 9)) nd0
    rwa [s2] at this
/-- Behind the reader's making. -/
structure RD (W W0 : World) (ts : List Ty) (root s : ByteArray) (G P b n : Nat) (M : ByteArray → Option Value) (w : World) : Prop where
  r3 : R3 W root s w
  b0 : Below W0.heap.size W0 w
  wl : Below W.heap.size W W0
  hG : W0.heap.size ≤ G
  hG2 : W.heap.size + 2 < G
  cp : w.cell? ⟨P, 0, none⟩ = some (.pointer (some ⟨G, 0, none⟩))
  hP : P ≠ G
  hP2 : W.heap.size + 2 < P
  V : PV G (.map (some b)) s vw0 w
  rm : Rmp.Rm W0 b n M
  fm : FmM W ts M
/-- The reader's box. -/
theorem pv_new (w : World) (b : Nat) (s : ByteArray) : PV w.heap.size (.map (some b)) s vw0 (w.alloc (.cells #[.map (some b), .string s, .int .i64 0, .int .i64 0] 85)) := by
  have h := heap_alloc_new w (.cells #[.map (some b), .string s, .int .i64 0, .int .i64 0] 85)
  have c : ∀ j v, (#[.map (some b), .string s, .int .i64 0, .int .i64 0] : Array Value)[j]? = some v → (w.alloc (.cells #[.map (some b), .string s, .int .i64 0, .int .i64 0] 85)).cell? ⟨w.heap.size, j, none⟩ = some v := fun j v hv => by unfold World.cell?; rw [h]; exact hv
  exact ⟨c 0 _ rfl, c 1 _ rfl, c 2 _ rfl, c 3 _ rfl, fun j => by unfold World.frozen?; rw [h]; simp⟩
theorem run_two {P : Program} {ops : Array Oper} {Q : Exit → Act → World → Prop} {md : Region.Mode} {S : World → Prop} {z i k f : Nat} {o o2 : Oper} {li : Array Bool} {a : Act} {w : World} (hr : Region.ready md ops li = [i, k]) (ho : ops[i]? = some o) (ho2 : ops[k]? = some o2)
    (h : ∀ K' : Act → World → Prop, (∀ a w, ((i ≠ z → S w) ∧ Hld.Run P md ops Q S z f (li.setIfInBounds i true) a w) → K' a w) → if Region.wanted o (yielded ops a.tmps) = true then Oper.wp P o a w K' Q else K' (a.put o.dst undef) w)
    (h2 : ∀ K' : Act → World → Prop, (∀ a w, ((k ≠ z → S w) ∧ Hld.Run P md ops Q S z f (li.setIfInBounds k true) a w) → K' a w) → if Region.wanted o2 (yielded ops a.tmps) = true then Oper.wp P o2 a w K' Q else K' (a.put o2.dst undef) w) : Hld.Run P md ops Q S z (f + 1) li a w := by
  refine ⟨fun h0 => (by rw [hr] at h0; cases h0), fun j hj => ?_⟩
  rw [hr] at hj
  simp only [List.mem_cons, List.mem_nil_iff, or_false] at hj
  rcases hj with rfl | rfl
  · exact wpOp_step ho h
  · exact wpOp_step ho2 h2
/-- The three orders. -/
theorem RD.a2 {W w1 : World} {ts : List Ty} {root s : ByteArray} {b n : Nat} {M : ByteArray → Option Value} {P : Nat} (r3 : R3 W root s w1) (rm : Rmp.Rm w1 b n M) (fm : FmM W ts M) (hc : w1.cell? ⟨P, 0, none⟩ = some (.pointer none)) (hb : b ≠ P) (hP : W.heap.size + 2 < P) :
    RD W (w1.setCell ⟨P, 0, none⟩ (.pointer (some ⟨w1.heap.size, 0, none⟩))) ts root s w1.heap.size P b n M ((w1.setCell ⟨P, 0, none⟩ (.pointer (some ⟨w1.heap.size, 0, none⟩))).alloc (.cells #[.map (some b), .string s, .int .i64 0, .int .i64 0] 85)) := by
  have hPl : P < w1.heap.size := World.block_lt_of_cell? w1 _ hc
  have sz : (w1.setCell ⟨P, 0, none⟩ (.pointer (some ⟨w1.heap.size, 0, none⟩))).heap.size = w1.heap.size := by simp [World.setCell]
  have r0 := r3.gr (Gr.of (S := fun k => k = P) (gb_set (w := w1) (G := P) (j := 0) (v := .pointer (some ⟨w1.heap.size, 0, none⟩))) rfl) (fun k hk => by omega)
  have c0 : (w1.setCell ⟨P, 0, none⟩ (.pointer (some ⟨w1.heap.size, 0, none⟩))).cell? ⟨P, 0, none⟩ = some (.pointer (some ⟨w1.heap.size, 0, none⟩)) := World.cell?_setCell_same (u := .pointer none) _ _ _ hc
  have rm2 : Rmp.Rm (w1.setCell ⟨P, 0, none⟩ (.pointer (some ⟨w1.heap.size, 0, none⟩))) b n M := rm.block (Below.heap_setCell _ _ _ _ hb)
  have hv := pv_new (w1.setCell ⟨P, 0, none⟩ (.pointer (some ⟨w1.heap.size, 0, none⟩))) b s
  rw [sz] at hv
  have b0 : Below (w1.setCell ⟨P, 0, none⟩ (.pointer (some ⟨w1.heap.size, 0, none⟩))).heap.size (w1.setCell ⟨P, 0, none⟩ (.pointer (some ⟨w1.heap.size, 0, none⟩))) ((w1.setCell ⟨P, 0, none⟩ (.pointer (some ⟨w1.heap.size, 0, none⟩))).alloc (.cells #[.map (some b), .string s, .int .i64 0, .int .i64 0] 85)) := (Below.refl _ _).alloc (Nat.le_refl _) _
  exact ⟨r0.below b0, b0, r0.bl, Nat.le_of_eq sz, r3.lt, keepCell b0 c0, by omega, hP, hv, rm2, fm⟩
theorem RD.b1 {W w1 : World} {ts : List Ty} {root s : ByteArray} {b n : Nat} {M : ByteArray → Option Value} (r3 : R3 W root s w1) (rm : Rmp.Rm w1 b n M) (fm : FmM W ts M) :
    RD W w1 ts root s w1.heap.size (w1.heap.size + 1) b n M ((w1.alloc (.cells #[.map (some b), .string s, .int .i64 0, .int .i64 0] 85)).alloc (.cells #[.pointer (some ⟨w1.heap.size, 0, none⟩)] 80)) := by
  have s1 : (w1.alloc (.cells #[.map (some b), .string s, .int .i64 0, .int .i64 0] 85)).heap.size = w1.heap.size + 1 := by simp
  have bA : Below w1.heap.size w1 ((w1.alloc (.cells #[.map (some b), .string s, .int .i64 0, .int .i64 0] 85)).alloc (.cells #[.pointer (some ⟨w1.heap.size, 0, none⟩)] 80)) := ((Below.refl _ _).alloc (Nat.le_refl _) _).alloc (by omega) _
  have hp := heap_alloc_new (w1.alloc (.cells #[.map (some b), .string s, .int .i64 0, .int .i64 0] 85)) (.cells #[.pointer (some ⟨w1.heap.size, 0, none⟩)] 80)
  rw [s1] at hp
  have hlt := r3.lt
  refine ⟨r3.below bA, bA, r3.bl, Nat.le_refl _, hlt, ?_, by omega, by omega, ?_, rm, fm⟩
  · unfold World.cell?; rw [hp]; rfl
  · exact (pv_new w1 b s).below ((Below.refl _ _).alloc (Nat.le_refl _) _)
theorem RD.b2 {W w1 : World} {ts : List Ty} {root s : ByteArray} {b n : Nat} {M : ByteArray → Option Value} (r3 : R3 W root s w1) (rm : Rmp.Rm w1 b n M) (fm : FmM W ts M) :
    RD W (w1.alloc (.cells #[.pointer (some ⟨w1.heap.size + 1, 0, none⟩)] 80)) ts root s (w1.heap.size + 1) w1.heap.size b n M ((w1.alloc (.cells #[.pointer (some ⟨w1.heap.size + 1, 0, none⟩)] 80)).alloc (.cells #[.map (some b), .string s, .int .i64 0, .int .i64 0] 85)) := by
  have s1 : (w1.alloc (.cells #[.pointer (some ⟨w1.heap.size + 1, 0, none⟩)] 80)).heap.size = w1.heap.size + 1 := by simp
  have bA : Below w1.heap.size w1 (w1.alloc (.cells #[.pointer (some ⟨w1.heap.size + 1, 0, none⟩)] 80)) := (Below.refl _ _).alloc (Nat.le_refl _) _
  have bB := (Below.refl (w1.alloc (.cells #[.pointer (some ⟨w1.heap.size + 1, 0, none⟩)] 80)).heap.size (w1.alloc (.cells #[.pointer (some ⟨w1.heap.size + 1, 0, none⟩)] 80))).alloc (Nat.le_refl _) (.cells #[.map (some b), .string s, .int .i64 0, .int .i64 0] 85)
  have hp := heap_alloc_new w1 (.cells #[.pointer (some ⟨w1.heap.size + 1, 0, none⟩)] 80)
  have hlt := r3.lt
  have hv := pv_new (w1.alloc (.cells #[.pointer (some ⟨w1.heap.size + 1, 0, none⟩)] 80)) b s
  rw [s1] at hv
  refine ⟨(r3.below bA).below bB, bB, (r3.below bA).bl, Nat.le_of_eq s1, by omega, ?_, by omega, hlt, hv, rm.below bA, fm⟩
  exact keepCell bB (by unfold World.cell?; rw [hp]; rfl)
/-- What has been read lies in the box X. -/
def AA (X lo : Nat) (N : Nd) (w' : World) : Prop := ∃ kv, NB w' X (ndVals N kv) ∧ NdF lo w' N kv ∧ ∃ a m c, kv = .slice a m c
theorem put7_nb {w : World} {B : Nat} {v0 v1 v2 v3 v4 v5 v6 : Value} (h : NB w B nd0) : NB (put7 w B v0 v1 v2 v3 v4 v5 v6) B [v0, v1, v2, v3, v4, v5, v6] :=
  ((((((h.set 0 v0).set 1 v1).set 2 v2).set 3 v3).set 4 v4).set 5 v5).set 6 v6
set_option maxRecDepth 100000 in
set_option maxHeartbeats 4000000 in
theorem readBody {W0 w : World} {ts : List Ty} {root s : ByteArray} {G P A1 A2 X lo : Nat} {fm : Value} (HO : OneQ W0 ts fm s 401) (hr : root.size ≤ 1000) (hs : s.size ≤ 1000) (hb : Below W0.heap.size W0 w) (hG : W0.heap.size ≤ G) (V : PV G fm s vw0 w)
    (cP : w.cell? ⟨P, 0, none⟩ = some (.pointer (some ⟨G, 0, none⟩))) (cA : w.cell? ⟨A1, 0, none⟩ = some (.string root)) (cB : w.cell? ⟨A2, 0, none⟩ = some (.string s)) (nX : NB w X nd0) (hP : P ≠ G) (hA : A2 ≠ G) (hX : X ≠ G) (hPX : P ≠ X) (hAX : A2 ≠ X) (hlo : lo ≤ w.heap.size) (hXl : X < lo) :
    Calls Tryz.prog 39 #[.pointer (some ⟨P, 0, none⟩), .pointer (some ⟨A1, 0, none⟩), .pointer (some ⟨X, 0, none⟩), .pointer (some ⟨A2, 0, none⟩)] w (ThrP (fun k => k = G ∨ k = X) (AA X lo (oneD ts s 401 (rootI root) vw0 nf0).1) (lastV s (oneD ts s 401 (rootI root) vw0 nf0).2.1).c (lastV s (oneD ts s 401 (rootI root) vw0 nf0).2.1).a w) := by
  obtain ⟨R, hR⟩ : ∃ R, oneD ts s 401 (rootI root) vw0 nf0 = R := ⟨_, rfl⟩
  rw [hR]
  have HRe := Lib.hid hR
  have HH := Lib.hid HO
  have HV := Lib.hid V
  have HB := Lib.hid hb
  have HX := Lib.hid nX
  clear HO hR V hb nX
  go_enter Tryz.func39, Tryz.ntmps39
  have bA : Below w.heap.size w (w.alloc (.cells #[.int .i64 3, .int .i64 0, .string root, .string root, .int .i64 0, .int .i64 0, .bool false, .bool false, .pointer none, .int .i64 0, .string ⟨#[]⟩, .string ⟨#[]⟩, .slice none 0 0] 78)) := (Below.refl _ _).alloc (Nat.le_refl _) _
  have iA : IB (w.alloc (.cells #[.int .i64 3, .int .i64 0, .string root, .string root, .int .i64 0, .int .i64 0, .bool false, .bool false, .pointer none, .int .i64 0, .string ⟨#[]⟩, .string ⟨#[]⟩, .slice none 0 0] 78)) w.heap.size (itVals (rootI root) (.pointer none) (.slice none 0 0)) := IB.new _ _
  have hGw := HV.out.lt
  have hXw := HX.out.lt
  have sA : (w.alloc (.cells #[.int .i64 3, .int .i64 0, .string root, .string root, .int .i64 0, .int .i64 0, .bool false, .bool false, .pointer none, .int .i64 0, .string ⟨#[]⟩, .string ⟨#[]⟩, .slice none 0 0] 78)).heap.size = w.heap.size + 1 := by simp
  have C := Lib.hid (HH.out G none vw0 nf0 0 (w.alloc (.cells #[.int .i64 3, .int .i64 0, .string root, .string root, .int .i64 0, .int .i64 0, .bool false, .bool false, .pointer none, .int .i64 0, .string ⟨#[]⟩, .string ⟨#[]⟩, .slice none 0 0] 78)) (rootI root) w.heap.size 0 ⟨HB.out.trans (bA.mono HB.out.size), hG, (fun b h => by cases h), HV.out.below bA, .inl ⟨rfl, rfl⟩, Nat.le_refl _, Nat.zero_le _, rfl, Nat.zero_le _, hs⟩ ⟨by omega, .pointer none, .slice none 0 0, fun w' g i v hv => by
    have h := IB.gr iA g (fun hk => by rcases hk with e | e; omega; cases e)
    rw [Nat.zero_add]
    exact (h.cell i).trans hv, rootI_at W0 root⟩ (rootI_wf hr) (Nat.le_refl _) (.inr rfl))
  rw [HRe.out] at C
  have HA := Lib.hid bA
  have SA := Lib.hid sA
  clear bA iA sA
  go_wp2_with fail
  generalize w.alloc (.cells #[.int .i64 3, .int .i64 0, .string root, .string root, .int .i64 0, .int .i64 0, .bool false, .bool false, .pointer none, .int .i64 0, .string ⟨#[]⟩, .string ⟨#[]⟩, .slice none 0 0] 78) = w1 at *
  refine (C.out).mono ?_; rintro e' w2 ⟨hg, h2⟩
  clear C HRe
  have g1 : Gr (fun k => k = G ∨ k = X) w w2 := (Gr.below HA.out).trans ⟨hg.os, hg.tape, hg.output, hg.size, fun k hk hn => hg.block k hk (fun h => by rcases h with e | e; exact hn (.inl e); cases e)⟩
  have hng : ∀ k, k ≠ G → ¬ GM G none k := fun k hk h => by rcases h with e | e; exact hk e; cases e
  obtain ⟨⟨nm3, kd3, at3, sz3, n3, tx3, kl3⟩, σ3, f3⟩ := R
  rcases h2 with ⟨hc2, kv, rfl, hV, hN, h1, h2, h4, hF, a3, m3, c3, rfl⟩ | ⟨hn, ev, rfl, he⟩
  · simp only at hV hN h1 h2 h4 hF hc2
    simp only [ndVals, List.toArray]
    have nX2 : NB w2 X nd0 := (HX.out.gr (Gr.below (S := fun _ => False) HA.out) id).gr hg (hng X hX)
    have g7 := put7_gr w2 X (.string nm3) (.int .i64 kd3) (.int .i64 (at3 : Nat)) (.int .i64 sz3) (.int .i64 n3) (.string tx3) (.slice a3 m3 c3)
    have V3 := Lib.hid (hV.block (g7.block G hV.lt (fun e => hX e.symm)))
    have N3 := Lib.hid (put7_nb (v0 := .string nm3) (v1 := .int .i64 kd3) (v2 := .int .i64 (at3 : Nat)) (v3 := .int .i64 sz3) (v4 := .int .i64 n3) (v5 := .string tx3) (v6 := .slice a3 m3 c3) nX2)
    have F3 := Lib.hid (show NdF lo (put7 w2 X (.string nm3) (.int .i64 kd3) (.int .i64 (at3 : Nat)) (.int .i64 sz3) (.int .i64 n3) (.string tx3) (.slice a3 m3 c3)) (.mk nm3 kd3 at3 sz3 n3 tx3 kl3) (.slice a3 m3 c3) from Fw.gr (Fw.low hF (by have := SA.out; omega)) g7 (fun k hk => by omega))
    have G3 := Lib.hid (g1.trans ⟨g7.os, g7.tape, g7.output, g7.size, fun k hk hn => g7.block k hk (fun e => hn (.inr e))⟩)
    have cP2 : (put7 w2 X (.string nm3) (.int .i64 kd3) (.int .i64 (at3 : Nat)) (.int .i64 sz3) (.int .i64 n3) (.string tx3) (.slice a3 m3 c3)).cell? ⟨P, 0, none⟩ = some (.pointer (some ⟨G, 0, none⟩)) := (World.cell?_of_block (a := ⟨P, 0, none⟩) (G3.out.block P (World.block_lt_of_cell? w _ cP) (fun h => by rcases h with e | e; exact hP e; exact hPX e))).trans cP
    have cB2 : (put7 w2 X (.string nm3) (.int .i64 kd3) (.int .i64 (at3 : Nat)) (.int .i64 sz3) (.int .i64 n3) (.string tx3) (.slice a3 m3 c3)).cell? ⟨A2, 0, none⟩ = some (.string s) := (World.cell?_of_block (a := ⟨A2, 0, none⟩) (G3.out.block A2 (World.block_lt_of_cell? w _ cB) (fun h => by rcases h with e | e; exact hA e; exact hAX e))).trans cB
    have x0 : w2.cell? ⟨X, 0, none⟩ = some (.string ⟨#[]⟩) := nX2.cell 0
    have x1 : w2.cell? ⟨X, 1, none⟩ = some (.int .i64 0) := nX2.cell 1
    have x2 : w2.cell? ⟨X, 2, none⟩ = some (.int .i64 0) := nX2.cell 2
    have x3 : w2.cell? ⟨X, 3, none⟩ = some (.int .i64 0) := nX2.cell 3
    have x4 : w2.cell? ⟨X, 4, none⟩ = some (.int .i64 0) := nX2.cell 4
    have x5 : w2.cell? ⟨X, 5, none⟩ = some (.string ⟨#[]⟩) := nX2.cell 5
    have x6 : w2.cell? ⟨X, 6, none⟩ = some (.slice none 0 0) := nX2.cell 6
    have hz : ∀ j, w2.frozen? ⟨X, j, none⟩ = false := fun j => nX2.free j
    have HC := Lib.hid hc2
    clear hV hN h1 h2 h4 hF hc2 g7 g1 nX2
    go_upto_region 1 with fail
    unfold put7 at V3 N3 F3 G3 cP2 cB2
    clear x0 x1 x2 x3 x4 x5 x6 hz
    generalize (((((((w2.setCell ⟨X, 0, none⟩ (.string nm3)).setCell ⟨X, 1, none⟩ (.int .i64 kd3)).setCell ⟨X, 2, none⟩ (.int .i64 (at3 : Nat))).setCell ⟨X, 3, none⟩ (.int .i64 sz3)).setCell ⟨X, 4, none⟩ (.int .i64 n3)).setCell ⟨X, 5, none⟩ (.string tx3)).setCell ⟨X, 6, none⟩ (.slice a3 m3 c3)) = w3 at *
    have c2 := V3.out.c2
    by_cases hlt : σ3.p < s.size
    · have d1 : (σ3.p : Int) < (s.size : Int) := by omega
      have HL := Lib.hid (show lastV s σ3 = ⟨σ3.p, σ3.k, 3, (σ3.p : Int)⟩ by unfold lastV; rw [if_pos hlt]; unfold wrV; exact if_pos HC.out)
      clear hlt
      go_quiet (fail)
      have hq := below_drewN (Below.refl w3.heap.size w3) nq
      have C := Lib.hid (pFail_any (V3.out.below hq) 3 (by decide))
      have G4 := Lib.hid (G3.out.trans (Gr.below hq))
      have cP3 : (w3.drewN nq).cell? ⟨P, 0, none⟩ = some (.pointer (some ⟨G, 0, none⟩)) := cP2
      clear hq c2 cP2 cB2 N3 F3 G3 V3
      generalize w3.drewN nq = w4 at *
      go_wp2_with fail
      refine (C.out).mono ?_; rintro e' w5 ⟨⟨hn, ev, rfl, he⟩, hb⟩
      unfold thrown
      go_wp2_with fail
      refine ⟨rfl, G4.out.trans (Gr.below hb), .inr ?_⟩
      simp only [HL.out]
      exact ⟨hn, ev, rfl, he⟩
    · have d1 : ¬ (σ3.p : Int) < (s.size : Int) := by omega
      have HL := Lib.hid (show lastV s σ3 = σ3 by unfold lastV; rw [if_neg hlt])
      clear hlt
      go_quiet (fail)
      have hq := below_drewN (Below.refl w3.heap.size w3) nq
      have A4 := Lib.hid (show AA X lo (.mk nm3 kd3 at3 sz3 n3 tx3 kl3) (w3.drewN nq) from ⟨.slice a3 m3 c3, N3.out.gr (Gr.below (S := fun _ => False) hq) id, Fw.gr F3.out (Gr.below (S := fun _ => False) hq) (fun _ h => h.elim), _, _, _, rfl⟩)
      have G4 := Lib.hid (G3.out.trans (Gr.below hq))
      clear hq c2 cP2 cB2 N3 F3 G3 V3
      generalize w3.drewN nq = w4 at *
      go_wp2_with fail
      go_end0
      refine ⟨G4.out, .inl ?_⟩
      rw [HL.out]
      exact ⟨HC.out, rfl, A4.out⟩
  · have hl : lastV s σ3 = σ3 := by
      unfold lastV
      split
      · exact wrV_stop hn 3
      · rfl
    have HL := Lib.hid hl
    clear hl
    unfold thrown
    go_wp2_with fail
    refine ⟨rfl, g1, .inr ?_⟩
    simp only [HL.out]
    exact ⟨hn, ev, rfl, he⟩
theorem RD.below {W W0 w w' : World} {ts : List Ty} {root s : ByteArray} {G P b n : Nat} {M : ByteArray → Option Value} (h : RD W W0 ts root s G P b n M w) (hb : Below w.heap.size w w') : RD W W0 ts root s G P b n M w' :=
  ⟨h.r3.below hb, h.b0.trans (hb.mono h.b0.size), h.wl, h.hG, h.hG2, keepCell hb h.cp, h.hP, h.hP2, h.V.below hb, h.rm, h.fm⟩
theorem zeroI (w : World) : (zeroValue 68).run Tryz.prog w = .ok (.slice none 0 0) w := by kernel_rfl
theorem RD.fmw {W W0 w : World} {ts : List Ty} {root s : ByteArray} {G P b n : Nat} {M : ByteArray → Option Value} (h : RD W W0 ts root s G P b n M w) : FmW W0 ts (.map (some b)) := by
  refine ⟨b, rfl, fun y hy => ?_⟩
  obtain ⟨h1, h2⟩ := h.fm y
  have hg : ∀ w', Below W0.heap.size W0 w' → (Instr.lookup 82 (.map (some b)) (.string y) false).run Tryz.prog w' = .ok ((M y).getD (.slice none 0 0)) w' := fun w' hb => (h.rm.below hb).get Tryz.underlying82 (zeroI w') y (by unfold maxLen; omega)
  unfold itsT
  cases hf : findT ts y with
  | none =>
    rw [h1 hf] at hg
    exact ⟨none, 0, 0, hg, itsAt_nil _⟩
  | some t =>
    obtain ⟨a, m, c, e, hi⟩ := h2 t hf
    rw [e] at hg
    exact ⟨a, m, c, hg, ItsAt.below hi h.wl⟩
theorem RD.look {W W0 w : World} {ts : List Ty} {root s : ByteArray} {G P b n : Nat} {M : ByteArray → Option Value} (h : RD W W0 ts root s G P b n M w) (hr : root.size ≤ maxLen) : ∃ a m c, ∀ q, Sem.run Tryz.prog (Instr.lookup 82 (.map (some b)) (.string root) true) (w.drewN q) = .ok (.tuple #[.slice a m c, .bool (findT ts root).isSome]) (w.drewN q) := by
  obtain ⟨h1, h2⟩ := h.fm root
  have hg : ∀ q, Sem.run Tryz.prog (Instr.lookup 82 (.map (some b)) (.string root) true) (w.drewN q) = .ok (.tuple #[(M root).getD (.slice none 0 0), .bool (M root).isSome]) (w.drewN q) := fun q => (h.rm.below (below_drewN h.b0 q)).look Tryz.underlying82 (zeroI _) root hr
  cases hf : findT ts root with
  | none =>
    rw [h1 hf] at hg
    exact ⟨none, 0, 0, hg⟩
  | some t =>
    obtain ⟨a, m, c, e, hi⟩ := h2 t hf
    rw [e] at hg
    exact ⟨a, m, c, hg⟩
set_option maxRecDepth 100000 in
theorem rd_results (tmps : Array Value) (w : World) (B : Nat) (v0 v1 v2 v3 v4 v5 v6 : Value) (h6 : tmps.getD 6 undef = .pointer (some ⟨B, 0, none⟩))
    (c0 : w.cell? ⟨B, 0, none⟩ = some v0) (c1 : w.cell? ⟨B, 1, none⟩ = some v1) (c2 : w.cell? ⟨B, 2, none⟩ = some v2) (c3 : w.cell? ⟨B, 3, none⟩ = some v3) (c4 : w.cell? ⟨B, 4, none⟩ = some v4) (c5 : w.cell? ⟨B, 5, none⟩ = some v5) (c6 : w.cell? ⟨B, 6, none⟩ = some v6) :
    (results Tryz.f9 tmps).run Tryz.prog w = .ok (.tuple #[.agg #[v0, v1, v2, v3, v4, v5, v6], tmps.getD 7 undef]) w := by
  have h6' : tmps[6]?.getD undef = .pointer (some ⟨B, 0, none⟩) := by simpa using h6
  simp only [results, Tryz.f9]
  simp [go_sem, h6', c0, c1, c2, c3, c4, c5, c6]
/-- The result is stored. -/
theorem R3.fin {W w : World} {root s : ByteArray} (h : R3 W root s w) {lo : Nat} {N : Nd} {kv : Value} (hN : NdF lo w N kv) (hlo : W.heap.size + 2 < lo) (v0 v1 v2 v3 v4 v5 v6 : Value) : Below W.heap.size W (put7 w (W.heap.size + 2) v0 v1 v2 v3 v4 v5 v6) ∧ NdAt (put7 w (W.heap.size + 2) v0 v1 v2 v3 v4 v5 v6) N kv := by
  have g := put7_gr w (W.heap.size + 2) v0 v1 v2 v3 v4 v5 v6
  exact ⟨Gr.to_below h.bl g h.bl.size (fun k hk hs => by omega), (Fw.gr hN g (fun k hk => by omega)) _ (fun _ _ _ => rfl)⟩
theorem errIs_zero {w : World} {B : Nat} {ev : Value} {n p : Int} (h : Err.ErrIs w ev n p) (hB : NB w B nd0) : Err.ErrIs (put7 w B (.string ⟨#[]⟩) (.int .i64 0) (.int .i64 0) (.int .i64 0) (.int .i64 0) (.string ⟨#[]⟩) (.slice none 0 0)) ev n p := by
  have g := put7_gr w B (.string ⟨#[]⟩) (.int .i64 0) (.int .i64 0) (.int .i64 0) (.int .i64 0) (.string ⟨#[]⟩) (.slice none 0 0)
  have hb : ∀ k, k < w.heap.size → (put7 w B (.string ⟨#[]⟩) (.int .i64 0) (.int .i64 0) (.int .i64 0) (.int .i64 0) (.string ⟨#[]⟩) (.slice none 0 0)).heap[k]? = w.heap[k]? := by
    intro k hk
    by_cases e : k = B
    · subst e
      exact (put7_nb hB : NB _ _ _).trans hB.symm
    · exact g.block k hk e
  rcases h with h | h | ⟨b, o, e, h1, h2⟩
  · exact .inl h
  · exact .inr (.inl h)
  · exact .inr (.inr ⟨b, o, e, (World.cell?_of_block (a := ⟨b, o, none⟩) (hb b (World.block_lt_of_cell? w _ h1))).trans h1, (World.cell?_of_block (a := ⟨b, o + 1, none⟩) (hb b (World.block_lt_of_cell? w _ h1))).trans h2⟩)
section
variable {W : World} {ts : List Ty} {root s : ByteArray}
set_option maxRecDepth 100000 in
set_option maxHeartbeats 4000000 in
theorem Read_any (va : Value) (hT : TysAt W va ts) (h8 : ts.length ≤ 8) (hwf : ∀ t ∈ ts, TyOk t) (hu : Uniq ts) (hs : s.size ≤ 1000) (hrm : root.size ≤ maxLen) : Calls Tryz.prog 9 #[va, .string root, .string s] W (PrP (layD ts root s) W) := by
  obtain ⟨pa, ca, rfl, _, _⟩ := id hT
  have HT := Lib.hid hT
  have HW := Lib.hid hwf
  have HU := Lib.hid hu
  obtain ⟨R, hR⟩ : ∃ R, layD ts root s = R := ⟨_, rfl⟩
  rw [hR]
  have HR := Lib.hid (show R = layD ts root s from hR.symm)
  clear hR hT hwf hu
  go_enter Tryz.func9, Tryz.ntmps9
  have R0 := Lib.hid (R3.start W root s)
  go_upto_region 1 with fail
  generalize (((W.alloc (.cells #[.string root] 9)).alloc (.cells #[.string s] 9)).alloc (.cells #[.string ⟨#[]⟩, .int .i64 0, .int .i64 0, .int .i64 0, .int .i64 0, .string ⟨#[]⟩, .slice none 0 0] 27)) = w0 at *
  obtain ⟨A, hA⟩ : ∃ A, W.heap.size = A := ⟨_, rfl⟩
  have HAe := Lib.hid hA
  rw [hA]
  clear hA
  have RDr := Lib.hid (R0.out.below (Below.refl _ _).drew)
  clear R0
  go_cut [8] (fun v8 wx => ∃ W0 G P b n M, v8 = .pointer (some ⟨P, 0, none⟩) ∧ Hid (RD W W0 ts root s G P b n M wx))
  case first =>
    have SH : w0.drew.cell? ⟨A + 1, 0, none⟩ = some (.string s) := by
      have h := RDr.out.b1
      rw [HAe.out] at h
      unfold World.cell?
      rw [h]
      rfl
    refine Hld.run_region (fun w' => w'.cell? ⟨A + 1, 0, none⟩ = some (.string s)) 6 (by kernel_rfl) ?_
    generalize w0.drew = w1 at *
    refine Hld.Run.take (i := 0) (d := 3) (v := .slice pa ts.length ca) rfl (by kernel_rfl) (by kernel_rfl) (by kernel_rfl) (by kernel_rfl) (by kernel_rfl) (by kernel_rfl) (fun _ _ _ h => h) (Or.inl ⟨by rfl, ?_⟩) SH ?_
    · intro w' hSw
      go_simp
    try simp only [Act.put]
    refine run_at #[true, false, false, false, false, false, false] (by kernel_rfl) ?_
    refine Hld.Run.take (i := 2) (d := 3) (v := .string s) rfl (by kernel_rfl) (by kernel_rfl) (by kernel_rfl) (by kernel_rfl) (by kernel_rfl) (by kernel_rfl) (fun _ _ _ h => h) (Or.inl ⟨by rfl, ?_⟩) SH ?_
    · intro w' hSw
      go_simp
    try simp only [Act.put]
    refine run_at #[true, false, true, false, false, false, false] (by kernel_rfl) ?_
    refine run_two (i := 1) (k := 5) (by kernel_rfl) rfl rfl (fun C1 hC1 => ?_) (fun C1 hC1 => ?_)
    · go_simp
      go_at_call 37
      refine (formOf_any (.slice pa ts.length ca) ts h8 HT.out HW.out HU.out _ RDr.out.bl).mono ?_
      rintro e' w2 ⟨b, n, M, rfl, hb2, hbl, hRm, hFm⟩
      refine hC1 _ _ ⟨fun _ => keepCell hb2 SH, ?_⟩
      replace SH := keepCell hb2 SH
      clear hC1 C1
      try simp only [Act.put]
      refine run_at #[true, true, true, false, false, false, false] (by kernel_rfl) ?_
      have R2 := Lib.hid (RDr.out.below hb2)
      have RM := Lib.hid hRm
      have FM := Lib.hid hFm
      have HBL := Lib.hid hbl
      clear hb2 hbl hRm hFm RDr
      refine Hld.Run.take (i := 3) (d := 3) (v := .agg #[.map (some b), .string s, .int .i64 0, .int .i64 0]) rfl (by kernel_rfl) (by kernel_rfl) (by kernel_rfl) (by kernel_rfl) (by kernel_rfl) (by kernel_rfl) (fun _ _ _ h => h) (Or.inl ⟨by rfl, ?_⟩) SH ?_
      · intro w' hSw
        go_simp
      try simp only [Act.put]
      refine run_at #[true, true, true, true, false, false, false] (by kernel_rfl) ?_
      refine run_two (i := 4) (k := 5) (by kernel_rfl) rfl rfl (fun C1 hC1 => ?_) (fun C1 hC1 => ?_)
      · go_simp
        refine hC1 _ _ ⟨fun _ => keepCell ((Below.refl _ _).alloc (Nat.le_refl _) _) SH, ?_⟩
        replace SH := keepCell ((Below.refl _ _).alloc (Nat.le_refl _) (.cells #[.map (some b), .string s, .int .i64 0, .int .i64 0] 85)) SH
        clear hC1 C1
        try simp only [Act.put]
        refine run_at #[true, true, true, true, true, false, false] (by kernel_rfl) ?_
        refine Hld.Run.one (i := 5) (by kernel_rfl) rfl (fun C2 hC2 => ?_)
        go_simp
        refine hC2 _ _ ⟨fun _ => keepCell ((Below.refl _ _).alloc (Nat.le_refl _) _) SH, ?_⟩
        replace SH := keepCell ((Below.refl _ _).alloc (Nat.le_refl _) (.cells #[.pointer none] 80)) SH
        clear hC2 C2
        try simp only [Act.put]
        refine run_at #[true, true, true, true, true, true, false] (by kernel_rfl) ?_
        have HF := Lib.hid (RD.b1 R2.out RM.out FM.out)
        clear SH R2 RM FM
        refine Hld.Run.one (i := 6) (by kernel_rfl) rfl (fun C4 hC4 => ?_)
        go_simp
        refine hC4 _ _ ⟨fun h => absurd rfl h, ?_⟩
        refine Hld.Run.done (by kernel_rfl) ?_ _
        clear hC4 C4
        go_wp2_with fail
        go_meet
        exact ⟨_, _, _, _, _, _, rfl, HF⟩
      · go_simp
        refine hC1 _ _ ⟨fun _ => keepCell ((Below.refl _ _).alloc (Nat.le_refl _) _) SH, ?_⟩
        replace SH := keepCell ((Below.refl _ _).alloc (Nat.le_refl _) (.cells #[.pointer none] 80)) SH
        clear hC1 C1
        try simp only [Act.put]
        refine run_at #[true, true, true, true, false, true, false] (by kernel_rfl) ?_
        refine Hld.Run.one (i := 4) (by kernel_rfl) rfl (fun C2 hC2 => ?_)
        go_simp
        refine hC2 _ _ ⟨fun _ => keepCell ((Below.refl _ _).alloc (Nat.le_refl _) _) SH, ?_⟩
        replace SH := keepCell ((Below.refl _ _).alloc (Nat.le_refl _) (.cells #[.map (some b), .string s, .int .i64 0, .int .i64 0] 85)) SH
        clear hC2 C2
        try simp only [Act.put]
        refine run_at #[true, true, true, true, true, true, false] (by kernel_rfl) ?_
        have HF := Lib.hid (RD.b2 R2.out RM.out FM.out)
        clear SH R2 RM FM
        refine Hld.Run.one (i := 6) (by kernel_rfl) rfl (fun C4 hC4 => ?_)
        go_simp
        refine hC4 _ _ ⟨fun h => absurd rfl h, ?_⟩
        refine Hld.Run.done (by kernel_rfl) ?_ _
        clear hC4 C4
        go_wp2_with fail
        go_meet
        exact ⟨_, _, _, _, _, _, rfl, HF⟩
    · go_simp
      have bA : Below w1.heap.size w1 (w1.alloc (.cells #[.pointer none] 80)) := (Below.refl _ _).alloc (Nat.le_refl _) _
      have iA := heap_alloc_new w1 (.cells #[.pointer none] 80)
      have sA : (w1.alloc (.cells #[.pointer none] 80)).heap.size = w1.heap.size + 1 := by simp
      refine hC1 _ _ ⟨fun _ => keepCell bA SH, ?_⟩
      replace SH := keepCell bA SH
      clear hC1 C1
      try simp only [Act.put]
      refine run_at #[true, false, true, false, false, true, false] (by kernel_rfl) ?_
      have RP := Lib.hid (RDr.out.below bA)
      have hPl := RDr.out.lt
      generalize w1.alloc (.cells #[.pointer none] 80) = w3 at *
      obtain ⟨P, hP⟩ : ∃ P, w1.heap.size = P := ⟨_, rfl⟩
      rw [hP] at iA sA hPl ⊢
      clear hP bA RDr
      refine Hld.Run.one (i := 1) (by kernel_rfl) rfl (fun C1 hC1 => ?_)
      go_simp
      go_at_call 37
      refine (formOf_any (.slice pa ts.length ca) ts h8 HT.out HW.out HU.out _ RP.out.bl).mono ?_
      rintro e' w2 ⟨b, n, M, rfl, hb2, hbl, hRm, hFm⟩
      refine hC1 _ _ ⟨fun _ => keepCell hb2 SH, ?_⟩
      replace SH := keepCell hb2 SH
      clear hC1 C1
      try simp only [Act.put]
      refine run_at #[true, true, true, false, false, true, false] (by kernel_rfl) ?_
      have i2 := (hb2.block P (Array.getElem?_eq_some_iff.1 iA).1).trans iA
      have c2 : w2.cell? ⟨P, 0, none⟩ = some (.pointer none) := by unfold World.cell?; rw [i2]; rfl
      have f2 : w2.frozen? ⟨P, 0, none⟩ = false := by unfold World.frozen?; rw [i2]; rfl
      have HF := Lib.hid (RD.a2 (RP.out.below hb2) hRm hFm c2 (by omega) hPl)
      clear iA sA RP hbl hRm hFm
      refine Hld.Run.take (i := 3) (d := 3) (v := .agg #[.map (some b), .string s, .int .i64 0, .int .i64 0]) rfl (by kernel_rfl) (by kernel_rfl) (by kernel_rfl) (by kernel_rfl) (by kernel_rfl) (by kernel_rfl) (fun _ _ _ h => h) (Or.inl ⟨by rfl, ?_⟩) SH ?_
      · intro w' hSw
        go_simp
      try simp only [Act.put]
      refine run_at #[true, true, true, true, false, true, false] (by kernel_rfl) ?_
      refine Hld.Run.one (i := 4) (by kernel_rfl) rfl (fun C2 hC2 => ?_)
      go_simp
      refine hC2 _ _ ⟨fun _ => keepCell ((Below.refl _ _).alloc (Nat.le_refl _) _) SH, ?_⟩
      replace SH := keepCell ((Below.refl _ _).alloc (Nat.le_refl _) (.cells #[.map (some b), .string s, .int .i64 0, .int .i64 0] 85)) SH
      clear hC2 C2
      try simp only [Act.put]
      refine run_at #[true, true, true, true, true, true, false] (by kernel_rfl) ?_
      have hP2 : P < w2.heap.size := World.block_lt_of_cell? w2 _ c2
      have c3 : (w2.alloc (.cells #[.map (some b), .string s, .int .i64 0, .int .i64 0] 85)).cell? ⟨P, 0, none⟩ = some (.pointer none) := keepCell ((Below.refl _ _).alloc (Nat.le_refl _) _) c2
      have f3 : (w2.alloc (.cells #[.map (some b), .string s, .int .i64 0, .int .i64 0] 85)).frozen? ⟨P, 0, none⟩ = false := (World.frozen?_alloc_old w2 _ _ (Nat.ne_of_lt hP2)).trans f2
      clear SH hb2
      refine Hld.Run.one (i := 6) (by kernel_rfl) rfl (fun C4 hC4 => ?_)
      go_simp
      refine hC4 _ _ ⟨fun h => absurd rfl h, ?_⟩
      refine Hld.Run.done (by kernel_rfl) ?_ _
      clear hC4 C4
      go_wp2_with fail
      go_meet
      exact ⟨_, _, _, _, _, _, rfl, HF⟩
  case rest =>
    obtain ⟨W0, G, P, b, n, M, rfl, hRD⟩ := hcut
    have D0 := Lib.hid hRD.out
    clear hRD
    obtain ⟨a4, m4, c4, get⟩ := D0.out.look hrm
    have cP := D0.out.cp
    have cG := D0.out.V.c0
    have cA : wc.cell? ⟨A, 0, none⟩ = some (.string root) := by
      have h := D0.out.r3.b0
      rw [HAe.out] at h
      unfold World.cell?
      rw [h]
      rfl
    obtain ⟨ok, hok⟩ : ∃ q, (findT ts root).isSome = q := ⟨_, rfl⟩
    rw [hok] at get
    go_upto_region 2 with fail
    go_quiet (fail)
    have D1 := Lib.hid (D0.out.below (below_drewN (Below.refl wc.heap.size wc) nq))
    clear cP cG cA get D0
    generalize wc.drewN nq = w1 at *
    have lt0 := D1.out.r3.lt
    have n0 := D1.out.r3.b2
    rw [HAe.out] at n0 lt0
    cases ok with
    | false =>
      have HR2 := Lib.hid (HR.out.trans (show layD ts root s = (nd00, 7, -1) from if_neg (by rw [hok]; decide)))
      have hz : ∀ j, w1.frozen? ⟨A + 2, j, none⟩ = false := fun j => n0.free j
      have x0 : w1.cell? ⟨A + 2, 0, none⟩ = some (.string ⟨#[]⟩) := n0.cell 0
      have x1 : w1.cell? ⟨A + 2, 1, none⟩ = some (.int .i64 0) := n0.cell 1
      have x2 : w1.cell? ⟨A + 2, 2, none⟩ = some (.int .i64 0) := n0.cell 2
      have x3 : w1.cell? ⟨A + 2, 3, none⟩ = some (.int .i64 0) := n0.cell 3
      have x4 : w1.cell? ⟨A + 2, 4, none⟩ = some (.int .i64 0) := n0.cell 4
      have x5 : w1.cell? ⟨A + 2, 5, none⟩ = some (.string ⟨#[]⟩) := n0.cell 5
      have x6 : w1.cell? ⟨A + 2, 6, none⟩ = some (.slice none 0 0) := n0.cell 6
      clear n0 hok
      go_wp2_with fail
      refine bodyPost_ret (rd_results _ _ (A + 2) (.string ⟨#[]⟩) (.int .i64 0) (.int .i64 0) (.int .i64 0) (.int .i64 0) (.string ⟨#[]⟩) (.slice none 0 0) rfl (by go_simp) (by go_simp) (by go_simp) (by go_simp) (by go_simp) (by go_simp) (by go_simp)) rfl ?_
      have q := D1.out.r3.fin (N := nd00) (kv := .slice none 0 0) (ndF_leaf (W.heap.size + 3) w1 emp 0 0 0 0 emp) (by omega) (.string ⟨#[]⟩) (.int .i64 0) (.int .i64 0) (.int .i64 0) (.int .i64 0) (.string ⟨#[]⟩) (.slice none 0 0)
      rw [HAe.out] at q
      rw [HR2.out]
      exact ⟨_, _, rfl, .inr (.inl ⟨rfl, rfl⟩), by rw [HAe.out]; exact q.1, q.2, _, _, _, rfl⟩
    | true =>
      have HR2 := Lib.hid (HR.out.trans (show layD ts root s = layF s (oneD ts s 401 (rootI root) vw0 nf0) from if_pos hok))
      have HRs := Lib.hid (name_small HW.out hok)
      have HO := Lib.hid (pone_all (s := s) D1.out.fmw (fun t ht => ⟨(HW.out t ht).1, (HW.out t ht).2.1⟩) 401)
      clear hok n0 HR
      go_upto_region 6 with fail
      have bA : Below w1.heap.size w1 (w1.alloc (.cells #[.string ⟨#[]⟩, .int .i64 0, .int .i64 0, .int .i64 0, .int .i64 0, .string ⟨#[]⟩, .slice none 0 0] 27)) := (Below.refl _ _).alloc (Nat.le_refl _) _
      have iA : NB (w1.alloc (.cells #[.string ⟨#[]⟩, .int .i64 0, .int .i64 0, .int .i64 0, .int .i64 0, .string ⟨#[]⟩, .slice none 0 0] 27)) w1.heap.size nd0 := NB.new _ _
      have hGl := D1.out.V.lt
      have hPl := World.block_lt_of_cell? w1 _ D1.out.cp
      simp only at hPl
      generalize w1.alloc (.cells #[.string ⟨#[]⟩, .int .i64 0, .int .i64 0, .int .i64 0, .int .i64 0, .string ⟨#[]⟩, .slice none 0 0] 27) = w2 at *
      obtain ⟨X, hX⟩ : ∃ X, w1.heap.size = X := ⟨_, rfl⟩
      rw [hX] at iA hGl hPl lt0 ⊢
      have D2 := Lib.hid (D1.out.below bA)
      have N2 := Lib.hid iA
      have hXl := iA.lt
      have hAG : A + 2 < G := by have := D2.out.hG2; have := HAe.out; omega
      clear bA iA hX D1
      obtain ⟨R1, hR1⟩ : ∃ R1, oneD ts s 401 (rootI root) vw0 nf0 = R1 := ⟨_, rfl⟩
      have C := Lib.hid (caught_any (.pointer (some ⟨P, 0, none⟩)) (.pointer (some ⟨A, 0, none⟩)) (.pointer (some ⟨X, 0, none⟩)) (.pointer (some ⟨A + 1, 0, none⟩)) (fun k => k = G ∨ k = X) (AA X (w2.heap.size + 1) R1.1) (lastV s R1.2.1).c (lastV s R1.2.1).a w2 (fun k hk => by rcases hk with e | e <;> omega)
        (fun w w' hA g => by
          obtain ⟨kv, h1, h2, h3⟩ := hA
          exact ⟨kv, h1.gr g (by omega), Fw.gr h2 g (fun k hk => by omega), h3⟩)
        (fun w hb hlt => by
          have D3 := D2.out.below hb
          have c0 : w.cell? ⟨A, 0, none⟩ = some (.string root) := by
            have h := D3.r3.b0
            rw [HAe.out] at h
            unfold World.cell?
            rw [h]
            rfl
          have c1 : w.cell? ⟨A + 1, 0, none⟩ = some (.string s) := by
            have h := D3.r3.b1
            rw [HAe.out] at h
            unfold World.cell?
            rw [h]
            rfl
          have h := readBody (lo := w2.heap.size + 1) HO.out HRs.out hs D3.b0 D3.hG D3.V D3.cp c0 c1 (N2.out.gr (Gr.below (S := fun _ => False) hb) id) D3.hP (by omega) (by omega) (by omega) (by omega) hlt (by omega)
          rw [hR1] at h
          exact h))
      rw [hR1] at HR2
      clear hR1
      have hmf : ∀ (fn : Fn) (first cap : Array Value) (w : World), (Instr.makeFunc fn first cap).run Tryz.prog w = .ok (.func fn first cap) w := fun _ _ _ _ => rfl
      go_wp2_with fail
      refine (C.out).mono ?_; rintro e' w3 ⟨ev, rfl, hg, h3⟩
      clear hmf C
      have r3 := D2.out.r3.gr hg (fun k hk => by have := HAe.out; rcases hk with e | e <;> omega)
      have n0 := r3.b2
      rw [HAe.out] at n0
      have lt3 := r3.lt
      rw [HAe.out] at lt3
      have hz : ∀ j, w3.frozen? ⟨A + 2, j, none⟩ = false := fun j => n0.free j
      have x0 : w3.cell? ⟨A + 2, 0, none⟩ = some (.string ⟨#[]⟩) := n0.cell 0
      have x1 : w3.cell? ⟨A + 2, 1, none⟩ = some (.int .i64 0) := n0.cell 1
      have x2 : w3.cell? ⟨A + 2, 2, none⟩ = some (.int .i64 0) := n0.cell 2
      have x3 : w3.cell? ⟨A + 2, 3, none⟩ = some (.int .i64 0) := n0.cell 3
      have x4 : w3.cell? ⟨A + 2, 4, none⟩ = some (.int .i64 0) := n0.cell 4
      have x5 : w3.cell? ⟨A + 2, 5, none⟩ = some (.string ⟨#[]⟩) := n0.cell 5
      have x6 : w3.cell? ⟨A + 2, 6, none⟩ = some (.slice none 0 0) := n0.cell 6
      rcases h3 with ⟨hc, rfl, hA3⟩ | ⟨hn, hE, T, u, rfl⟩
      · obtain ⟨kv, h1, h2, a3, m3, c3, rfl⟩ := hA3
        have HR3 := Lib.hid (HR2.out.trans (show layF s R1 = (R1.1, 0, -1) from if_neg (by simp [hc])))
        obtain ⟨⟨nm3, kd3, at3, sz3, n3, tx3, kl3⟩, σ3, f3⟩ := R1
        simp only at h1 h2 HR3
        simp only [ndVals] at h1
        have y0 : w3.cell? ⟨X, 0, none⟩ = some (.string nm3) := h1.cell 0
        have y1 : w3.cell? ⟨X, 1, none⟩ = some (.int .i64 kd3) := h1.cell 1
        have y2 : w3.cell? ⟨X, 2, none⟩ = some (.int .i64 (at3 : Nat)) := h1.cell 2
        have y3 : w3.cell? ⟨X, 3, none⟩ = some (.int .i64 sz3) := h1.cell 3
        have y4 : w3.cell? ⟨X, 4, none⟩ = some (.int .i64 n3) := h1.cell 4
        have y5 : w3.cell? ⟨X, 5, none⟩ = some (.string tx3) := h1.cell 5
        have y6 : w3.cell? ⟨X, 6, none⟩ = some (.slice a3 m3 c3) := h1.cell 6
        have F3 := Lib.hid h2
        have RR := Lib.hid r3
        clear h1 h2 hc hg n0 r3 HR2
        go_wp2_with fail
        refine bodyPost_ret (rd_results _ _ (A + 2) (.string nm3) (.int .i64 kd3) (.int .i64 (at3 : Nat)) (.int .i64 sz3) (.int .i64 n3) (.string tx3) (.slice a3 m3 c3) rfl (by go_simp) (by go_simp) (by go_simp) (by go_simp) (by go_simp) (by go_simp) (by go_simp)) rfl ?_
        have q := RR.out.fin F3.out (by have := HAe.out; omega) (.string nm3) (.int .i64 kd3) (.int .i64 (at3 : Nat)) (.int .i64 sz3) (.int .i64 n3) (.string tx3) (.slice a3 m3 c3)
        rw [HAe.out] at q
        rw [HR3.out]
        exact ⟨_, _, rfl, .inl ⟨rfl, rfl, rfl⟩, by rw [HAe.out]; exact q.1, q.2, _, _, _, rfl⟩
      · have HR3 := Lib.hid (HR2.out.trans (show layF s R1 = (nd00, (lastV s R1.2.1).c, (lastV s R1.2.1).a) from if_pos hn))
        have HE := Lib.hid (errIs_zero hE n0)
        have RR := Lib.hid r3
        clear hE hn hg n0 r3 HR2
        go_wp2_with fail
        refine bodyPost_ret (rd_results _ _ (A + 2) (.string ⟨#[]⟩) (.int .i64 0) (.int .i64 0) (.int .i64 0) (.int .i64 0) (.string ⟨#[]⟩) (.slice none 0 0) rfl (by go_simp) (by go_simp) (by go_simp) (by go_simp) (by go_simp) (by go_simp) (by go_simp)) rfl ?_
        have q := RR.out.fin (N := nd00) (kv := .slice none 0 0) (ndF_leaf (W.heap.size + 3) w3 emp 0 0 0 0 emp) (by omega) (.string ⟨#[]⟩) (.int .i64 0) (.int .i64 0) (.int .i64 0) (.int .i64 0) (.string ⟨#[]⟩) (.slice none 0 0)
        rw [HAe.out] at q
        rw [HR3.out]
        exact ⟨_, _, rfl, HE.out, by rw [HAe.out]; exact q.1, q.2, _, _, _, rfl⟩
end
end Go.Proofs.YtkopjmofdnlplaaGreatDoor.Ly
