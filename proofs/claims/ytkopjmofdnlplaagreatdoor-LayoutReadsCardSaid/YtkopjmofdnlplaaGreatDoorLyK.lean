/-
  PROVED HERE: the contract of the document's LayoutRead. Conditions: as each theorem states.
-/
import Derived.Test.YtkopjmofdnlplaaGreatDoorLyI
import Derived.Test.YtkopjmofdnlplaaGreatDoorLyF
import Derived.Test.YtkopjmofdnlplaaGreatDoorPlc
import Derived.Test.YtkopjmofdnlplaaGreatDoorTnH
namespace Go.Proofs.YtkopjmofdnlplaaGreatDoor.Ly
open Go.RowKit Go.Proofs.YtkopjmofdnlplaaGreatDoor.Tm
theorem one_all {W0 : World} {ts : List Ty} {tv : Value} {s : ByteArray} (hT : TysAt W0 tv ts) (h8 : ts.length ≤ 8) (hwf : ∀ t ∈ ts, WfL t.items ∧ t.items.length ≤ 16) : ∀ m, OneC W0 ts tv s m := by
  intro m
  induction m with
  | zero =>
    intro G mo σ f K W x cv iv P hc _ _ hm _
    have := P.kc hc
    omega
  | succ m ih => exact one_any hT h8 hwf (block_any ih)
/-- The item that is the whole. -/
def rootI (root : ByteArray) : It := .mk 3 0 root root 0 0 false false none 0 emp emp []
def nd00 : Nd := .mk emp 0 0 0 0 emp []
def vw0 : Vw := ⟨0, 0, 0, -1⟩
def lastV (s : ByteArray) (v : Vw) : Vw := if v.p < s.size then wrV v 3 else v
/-- What the document makes of a text, and what is wrong. -/
def layF (s : ByteArray) (R : Nd × Vw × Nf) : Nd × Int × Int :=
  if (lastV s R.2.1).c ≠ 0 then (nd00, (lastV s R.2.1).c, (lastV s R.2.1).a) else (R.1, 0, -1)
def layD (ts : List Ty) (root s : ByteArray) : Nd × Int × Int :=
  if (findT ts root).isSome = true then layF s (oneD ts s 401 (rootI root) vw0 nf0) else (nd00, 7, -1)
def LrP (N : Nd × Int × Int) (W : World) (e : Ending) (w' : World) : Prop :=
  ∃ kv, e = .returned (.tuple #[.agg (ndVals N.1 kv).toArray, .agg #[.int .i64 N.2.1, .int .i64 N.2.2]]) ∧ Below W.heap.size W w' ∧ NdAt w' N.1 kv ∧ ∃ a m c, kv = .slice a m c
/-- The boxes of the two results. -/
structure RB (W w : World) : Prop where
  bl : Below W.heap.size W w
  nb : NB w W.heap.size nd0
  fb : w.heap[W.heap.size + 1]? = some (.cells #[.int .i64 0, .int .i64 0] 30)
theorem RB.start (W : World) : RB W ((W.alloc (.cells #[.string ⟨#[]⟩, .int .i64 0, .int .i64 0, .int .i64 0, .int .i64 0, .string ⟨#[]⟩, .slice none 0 0] 27)).alloc (.cells #[.int .i64 0, .int .i64 0] 30)) := by
  refine ⟨((Below.refl _ _).alloc (Nat.le_refl _) _).alloc (by simp) _, (heap_alloc_old _ _ (by simp)).trans (NB.new W nd0), ?_⟩
  have := heap_alloc_new (W.alloc (.cells #[.string ⟨#[]⟩, .int .i64 0, .int .i64 0, .int .i64 0, .int .i64 0, .string ⟨#[]⟩, .slice none 0 0] 27)) (.cells #[.int .i64 0, .int .i64 0] 30)
  rwa [show (W.alloc (.cells #[.string ⟨#[]⟩, .int .i64 0, .int .i64 0, .int .i64 0, .int .i64 0, .string ⟨#[]⟩, .slice none 0 0] 27)).heap.size = W.heap.size + 1 by simp] at this
theorem RB.lt {W w : World} (h : RB W w) : W.heap.size + 1 < w.heap.size := (Array.getElem?_eq_some_iff.1 h.fb).1
theorem RB.gr {W w w' : World} {S : Nat → Prop} (h : RB W w) (g : Gr S w w') (hS : ∀ k, S k → W.heap.size + 1 < k) : RB W w' := by
  have := h.lt
  exact ⟨Gr.to_below h.bl g h.bl.size (fun k hk hs => by have := hS k hs; omega), h.nb.gr g (fun hs => by have := hS _ hs; omega), (g.block _ (by omega) (fun hs => by have := hS _ hs; omega)).trans h.fb⟩
theorem RB.below {W w w' : World} (h : RB W w) (hb : Below w.heap.size w w') : RB W w' := h.gr (Gr.below (S := fun _ => False) hb) (fun _ h => h.elim)
set_option maxRecDepth 100000 in
theorem lr_results (tmps : Array Value) (w : World) (B : Nat) (v0 v1 v2 v3 v4 v5 v6 f0 f1 : Value) (h6 : tmps.getD 6 undef = .pointer (some ⟨B, 0, none⟩)) (h7 : tmps.getD 7 undef = .pointer (some ⟨B + 1, 0, none⟩))
    (c0 : w.cell? ⟨B, 0, none⟩ = some v0) (c1 : w.cell? ⟨B, 1, none⟩ = some v1) (c2 : w.cell? ⟨B, 2, none⟩ = some v2) (c3 : w.cell? ⟨B, 3, none⟩ = some v3) (c4 : w.cell? ⟨B, 4, none⟩ = some v4) (c5 : w.cell? ⟨B, 5, none⟩ = some v5) (c6 : w.cell? ⟨B, 6, none⟩ = some v6) (d0 : w.cell? ⟨B + 1, 0, none⟩ = some f0) (d1 : w.cell? ⟨B + 1, 1, none⟩ = some f1) :
    (results Tryz.f8 tmps).run Tryz.prog w = .ok (.tuple #[.agg #[v0, v1, v2, v3, v4, v5, v6], .agg #[f0, f1]]) w := by
  have h6' : tmps[6]?.getD undef = .pointer (some ⟨B, 0, none⟩) := by simpa using h6
  have h7' : tmps[7]?.getD undef = .pointer (some ⟨B + 1, 0, none⟩) := by simpa using h7
  simp only [results, Tryz.f8]
  simp [go_sem, h6', h7', c0, c1, c2, c3, c4, c5, c6, d0, d1]
/-- Seven cells written in one block, two in another. -/
def put9 (w : World) (B : Nat) (v0 v1 v2 v3 v4 v5 v6 f0 f1 : Value) : World :=
  ((((((((w.setCell ⟨B, 0, none⟩ v0).setCell ⟨B, 1, none⟩ v1).setCell ⟨B, 2, none⟩ v2).setCell ⟨B, 3, none⟩ v3).setCell ⟨B, 4, none⟩ v4).setCell ⟨B, 5, none⟩ v5).setCell ⟨B, 6, none⟩ v6).setCell ⟨B + 1, 0, none⟩ f0).setCell ⟨B + 1, 1, none⟩ f1
theorem put9_gr (w : World) (B : Nat) (v0 v1 v2 v3 v4 v5 v6 f0 f1 : Value) : Gr (fun k => k = B ∨ k = B + 1) w (put9 w B v0 v1 v2 v3 v4 v5 v6 f0 f1) := by
  have h : ∀ (w : World) (j : Nat) (v : Value), Gr (fun k => k = B ∨ k = B + 1) w (w.setCell ⟨B, j, none⟩ v) := fun w j v => Gr.of gb_set (.inl rfl)
  have h2 : ∀ (w : World) (j : Nat) (v : Value), Gr (fun k => k = B ∨ k = B + 1) w (w.setCell ⟨B + 1, j, none⟩ v) := fun w j v => Gr.of gb_set (.inr rfl)
  exact (((((((((h _ _ _).trans (h _ _ _)).trans (h _ _ _)).trans (h _ _ _)).trans (h _ _ _)).trans (h _ _ _)).trans (h _ _ _)).trans (h2 _ _ _)).trans (h2 _ _ _))
theorem RB.fin {W w : World} (h : RB W w) {lo : Nat} {N : Nd} {kv : Value} (hN : NdF lo w N kv) (hlo : W.heap.size + 1 < lo) (v0 v1 v2 v3 v4 v5 v6 f0 f1 : Value) : Below W.heap.size W (put9 w W.heap.size v0 v1 v2 v3 v4 v5 v6 f0 f1) ∧ NdAt (put9 w W.heap.size v0 v1 v2 v3 v4 v5 v6 f0 f1) N kv := by
  have g := put9_gr w W.heap.size v0 v1 v2 v3 v4 v5 v6 f0 f1
  refine ⟨Gr.to_below h.bl g h.bl.size (fun k hk hs => by rcases hs with e | e <;> omega), ?_⟩
  exact (Fw.gr hN g (fun k hk => by rcases hk with e | e <;> omega)) _ (fun _ _ _ => rfl)
theorem rootI_wf {root : ByteArray} (h : root.size ≤ 1000) : WfI (rootI root) := by
  have e0 : emp.size ≤ 1000 := by decide
  refine (wfI_iff _).2 ⟨⟨⟨show (1 : Int) ≤ 3 by decide, show (3 : Int) ≤ 4 by decide⟩, ⟨show (0 : Int) ≤ 0 by decide, show (0 : Int) ≤ 3 by decide⟩, fun h => absurd rfl h, fun h => absurd h (show ¬ (3 : Int) = 1 by decide), .inl rfl, ⟨h, h, e0, e0⟩, fun h => ?_, fun _ => rfl, fun _ => rfl, show (0 : Nat) ≤ 4000 by decide, show ([] : List It).length ≤ 16 by decide, lv_none⟩, trivial⟩
  rcases h with h | h | h
  · exact absurd h (show ¬ (3 : Int) = 2 by decide)
  · exact absurd h (show ¬ (3 : Int) = 4 by decide)
  · cases h
theorem rootI_at (w : World) (root : ByteArray) : ItAt w (rootI root) (.pointer none) (.slice none 0 0) := (itAt_iff _ _ _ _).2 ⟨rfl, itsAt_nil w⟩
theorem name_small {ts : List Ty} (hw : ∀ t ∈ ts, TyOk t) {root : ByteArray} (h : (findT ts root).isSome = true) : root.size ≤ 1000 := by
  obtain ⟨t, ht⟩ := Option.isSome_iff_exists.1 h
  have h1 := List.find?_some ht
  have h2 := hw t (List.mem_of_find?_eq_some ht)
  have h3 : t.name = root := by simpa using h1
  rw [← h3]
  exact h2.2.2.1
section
variable {W : World} {ts : List Ty} {root s : ByteArray}
set_option maxRecDepth 100000 in
set_option maxHeartbeats 4000000 in
theorem docRead_any (va : Value) (hT : TysAt W va ts) (h8 : ts.length ≤ 8) (hwf : ∀ t ∈ ts, TyOk t) (hs : s.size ≤ 1000) : Calls Tryz.prog 8 #[va, .string root, .string s] W (LrP (layD ts root s) W) := by
  obtain ⟨pa, ca, rfl, _, _⟩ := id hT
  have HT := Lib.hid hT
  have HW := Lib.hid (fun h => name_small hwf (root := root) h)
  have HO := Lib.hid (one_all (s := s) hT h8 (fun t ht => ⟨(hwf t ht).1, (hwf t ht).2.1⟩) 401)
  obtain ⟨R, hR⟩ : ∃ R, layD ts root s = R := ⟨_, rfl⟩
  rw [hR]
  have HR := Lib.hid (show R = layD ts root s from hR.symm)
  clear hR hT hwf
  have R0 := Lib.hid (RB.start W)
  go_enter Tryz.func8, Tryz.ntmps8
  go_upto_region 1 with fail
  generalize ((W.alloc (.cells #[.string ⟨#[]⟩, .int .i64 0, .int .i64 0, .int .i64 0, .int .i64 0, .string ⟨#[]⟩, .slice none 0 0] 27)).alloc (.cells #[.int .i64 0, .int .i64 0] 30)) = w0 at *
  have C := Lib.hid (itemsOf_any W ts (.slice pa ts.length ca) root w0 HT.out R0.out.bl h8)
  go_wp2_with fail
  refine (C.out).mono ?_; rintro e' w1 ⟨iv, rfl, hb, hit, a4, m4, c4, rfl⟩
  have R1 := Lib.hid (R0.out.below hb)
  have HIT := Lib.hid hit
  clear C R0 hb hit
  obtain ⟨B, hB⟩ : ∃ B, W.heap.size = B := ⟨_, rfl⟩
  have HBe := Lib.hid hB
  cases hso : (findT ts root).isSome with
  | false =>
    have HR2 := Lib.hid (HR.out.trans (show layD ts root s = (nd00, 7, -1) from if_neg (by rw [hso]; decide)))
    have n0 := R1.out.nb
    have f0 := R1.out.fb
    have lt0 := R1.out.lt
    rw [hB] at n0 f0 lt0 ⊢
    have hz : ∀ j, w1.frozen? ⟨B, j, none⟩ = false := fun j => n0.free j
    have hz2 : ∀ j, w1.frozen? ⟨B + 1, j, none⟩ = false := fun j => by unfold World.frozen?; rw [f0]; simp
    have x0 : w1.cell? ⟨B, 0, none⟩ = some (.string ⟨#[]⟩) := n0.cell 0
    have x1 : w1.cell? ⟨B, 1, none⟩ = some (.int .i64 0) := n0.cell 1
    have x2 : w1.cell? ⟨B, 2, none⟩ = some (.int .i64 0) := n0.cell 2
    have x3 : w1.cell? ⟨B, 3, none⟩ = some (.int .i64 0) := n0.cell 3
    have x4 : w1.cell? ⟨B, 4, none⟩ = some (.int .i64 0) := n0.cell 4
    have x5 : w1.cell? ⟨B, 5, none⟩ = some (.string ⟨#[]⟩) := n0.cell 5
    have x6 : w1.cell? ⟨B, 6, none⟩ = some (.slice none 0 0) := n0.cell 6
    have y0 : w1.cell? ⟨B + 1, 0, none⟩ = some (.int .i64 0) := by unfold World.cell?; rw [f0]; rfl
    have y1 : w1.cell? ⟨B + 1, 1, none⟩ = some (.int .i64 0) := by unfold World.cell?; rw [f0]; rfl
    clear n0 f0 hso
    go_wp2_with fail
    refine bodyPost_ret (lr_results _ _ B (.string ⟨#[]⟩) (.int .i64 0) (.int .i64 0) (.int .i64 0) (.int .i64 0) (.string ⟨#[]⟩) (.slice none 0 0) (.int .i64 7) (.int .i64 (-1)) rfl rfl (by go_simp) (by go_simp) (by go_simp) (by go_simp) (by go_simp) (by go_simp) (by go_simp) (by go_simp) (by go_simp)) rfl ?_
    have q := R1.out.fin (N := nd00) (kv := .slice none 0 0) (ndF_leaf (W.heap.size + 2) w1 emp 0 0 0 0 emp) (by omega) (.string ⟨#[]⟩) (.int .i64 0) (.int .i64 0) (.int .i64 0) (.int .i64 0) (.string ⟨#[]⟩) (.slice none 0 0) (.int .i64 7) (.int .i64 (-1))
    rw [HBe.out] at q
    rw [HR2.out]
    exact ⟨_, rfl, by rw [HBe.out]; exact q.1, q.2, _, _, _, rfl⟩
  | true =>
    have hnm := HW.out hso
    have HR2 := Lib.hid (HR.out.trans (show layD ts root s = layF s (oneD ts s 401 (rootI root) vw0 nf0) from if_pos hso))
    clear hso
    go_wp2_with fail
    refine (good_any w1).mono ?_; rintro e' w2 ⟨rfl, hb⟩
    have R2 := Lib.hid (R1.out.below hb)
    clear hb R1
    go_upto_region 5 with fail
    have bA : Below w2.heap.size w2 (w2.alloc (.cells #[.slice pa ts.length ca, .string s, .int .i64 0, .int .i64 0, .int .i64 0, .int .i64 (-1)] 74)) := (Below.refl _ _).alloc (Nat.le_refl _) _
    have vA : (w2.alloc (.cells #[.slice pa ts.length ca, .string s, .int .i64 0, .int .i64 0, .int .i64 0, .int .i64 (-1)] 74)).heap[w2.heap.size]? = some (.cells #[.slice pa ts.length ca, .string s, .int .i64 0, .int .i64 0, .int .i64 0, .int .i64 (-1)] 74) := heap_alloc_new _ _
    generalize w2.alloc (.cells #[.slice pa ts.length ca, .string s, .int .i64 0, .int .i64 0, .int .i64 0, .int .i64 (-1)] 74) = w3 at *
    obtain ⟨G, hG⟩ : ∃ G, w2.heap.size = G := ⟨_, rfl⟩
    rw [hG] at vA ⊢
    have hGW : W.heap.size + 1 < G := by have := R2.out.lt; omega
    have R3 := Lib.hid (R2.out.below bA)
    have V3 : VS G (.slice pa ts.length ca) s vw0 w3 := by
      have c : ∀ j v, (#[.slice pa ts.length ca, .string s, .int .i64 0, .int .i64 0, .int .i64 0, .int .i64 (-1)] : Array Value)[j]? = some v → w3.cell? ⟨G, j, none⟩ = some v := fun j v h => by unfold World.cell?; rw [vA]; exact h
      exact ⟨c 0 _ rfl, c 1 _ rfl, c 2 _ rfl, c 3 _ rfl, c 4 _ rfl, c 5 _ rfl, fun j => by unfold World.frozen?; rw [vA]; simp⟩
    have C := Lib.hid (HO.out G none vw0 nf0 0 w3 (rootI root) (.pointer none) (.slice none 0 0) ⟨R3.out.bl, by omega, (fun b h => by cases h), V3, .inl ⟨rfl, rfl⟩, Nat.le_refl _, by decide, fun _ => by decide, Nat.zero_le _, hs⟩ rfl (rootI_at W root) (rootI_wf hnm) (by decide) (.inr rfl))
    rw [show (itVals (rootI root) (.pointer none) (.slice none 0 0)).toArray = #[.int .i64 3, .int .i64 0, .string root, .string root, .int .i64 0, .int .i64 0, .bool false, .bool false, .pointer none, .int .i64 0, .string ⟨#[]⟩, .string ⟨#[]⟩, .slice none 0 0] from rfl] at C
    have hG3 := V3.lt
    clear bA vA hG R2 V3 hnm HO HIT HT
    obtain ⟨⟨⟨nm3, kd3, at3, sz3, n3, tx3, kl3⟩, σ3, f3⟩, hq⟩ : ∃ q, oneD ts s 401 (rootI root) vw0 nf0 = q := ⟨_, rfl⟩
    rw [hq] at C HR2
    clear hq
    go_wp2_with fail
    refine (C.out).mono ?_; rintro e' w4 ⟨kv, rfl, hV, hg, hN, h1, h2, h3, h4, hF, a3, m3, c3, rfl⟩
    simp only at hV hN h1 h2 h3 h4 hF
    simp only [ndVals, List.toArray]
    go_upto_region 6 with fail
    have bA : Below w4.heap.size w4 (w4.alloc (.cells #[.string nm3, .int .i64 kd3, .int .i64 (at3 : Nat), .int .i64 sz3, .int .i64 n3, .string tx3, .slice a3 m3 c3] 27)) := (Below.refl _ _).alloc (Nat.le_refl _) _
    have iA : NB (w4.alloc (.cells #[.string nm3, .int .i64 kd3, .int .i64 (at3 : Nat), .int .i64 sz3, .int .i64 n3, .string tx3, .slice a3 m3 c3] 27)) w4.heap.size [.string nm3, .int .i64 kd3, .int .i64 (at3 : Nat), .int .i64 sz3, .int .i64 n3, .string tx3, .slice a3 m3 c3] := NB.new _ _
    generalize w4.alloc (.cells #[.string nm3, .int .i64 kd3, .int .i64 (at3 : Nat), .int .i64 sz3, .int .i64 n3, .string tx3, .slice a3 m3 c3] 27) = w5 at *
    obtain ⟨X, hX⟩ : ∃ X, w4.heap.size = X := ⟨_, rfl⟩
    rw [hX] at iA ⊢
    have hS : ∀ k, GM G none k → k = G := fun k hk => by rcases hk with e | e; exact e; cases e
    have hGl := hV.lt
    have sz3' := hg.size
    have R5 := Lib.hid ((R3.out.gr hg (fun k hk => by have := hS k hk; omega)).below bA)
    have V5 := Lib.hid (hV.below bA)
    have X5 := Lib.hid iA
    have F5 := Lib.hid (show NdF (G + 1) w5 (.mk nm3 kd3 at3 sz3 n3 tx3 kl3) (.slice a3 m3 c3) from Fw.gr (Fw.low hF (by omega)) (Gr.below (S := fun _ => False) bA) (fun _ h => h.elim))
    have hp := h4
    clear C hV hg hN h1 h2 h3 h4 hF bA iA R3
    have hX5 := X5.out.lt
    have hXG : ¬ X = G := by omega
    have cp := V5.out.c2
    have hE : Hid (lastV s σ3 = if σ3.p < s.size then wrV σ3 3 else σ3) := Lib.hid rfl
    go_upto_if 38 with fail
    go_cut [] (fun wx => Hid (VS G (.slice pa ts.length ca) s (lastV s σ3) wx ∧ Gr (GM G none) w5 wx))
    case first =>
      by_cases hlt : σ3.p < s.size
      · have d1 : (σ3.p : Int) < (s.size : Int) := by omega
        have HE := Lib.hid (hE.out.trans (if_pos hlt))
        have C := Lib.hid (wrong_any V5.out 3)
        clear hlt hE
        go_wp2_with fail
        refine (C.out).mono ?_; rintro e' w6 ⟨rfl, hst⟩
        have V6 := Lib.hid (show VS G (.slice pa ts.length ca) s (lastV s σ3) w6 ∧ Gr (GM G none) w5 w6 from ⟨by rw [HE.out]; exact hst.1, Gr.of hst.2 (gm_G G none)⟩)
        clear hst
        go_wp2_with fail
        go_meet
        exact V6
      · have d1 : ¬ (σ3.p : Int) < (s.size : Int) := by omega
        have HE := Lib.hid (hE.out.trans (if_neg hlt))
        have V6 := Lib.hid (show VS G (.slice pa ts.length ca) s (lastV s σ3) w5 ∧ Gr (GM G none) w5 w5 from ⟨by rw [HE.out]; exact V5.out, Gr.refl _ _⟩)
        clear hlt hE
        go_wp2_with fail
        go_meet
        exact V6
    case rest =>
      have VC := Lib.hid hcut.out.1
      have GC := Lib.hid hcut.out.2
      have hS2 : ∀ k, GM G none k → W.heap.size + 1 < k := fun k hk => by have := hS k hk; omega
      have R6 := Lib.hid (R5.out.gr GC.out hS2)
      have X6 := Lib.hid (X5.out.gr GC.out (fun hk => hXG (hS X hk)))
      have F6 := Lib.hid (Fw.gr F5.out GC.out (fun k hk => by have := hS k hk; omega))
      clear hcut R5 X5 F5 V5 cp GC hS2
      have HR3 := Lib.hid (show R = if (lastV s σ3).c ≠ 0 then (nd00, (lastV s σ3).c, (lastV s σ3).a) else (.mk nm3 kd3 at3 sz3 n3 tx3 kl3, 0, -1) from HR2.out)
      generalize lastV s σ3 = σ4 at *
      have c4 := VC.out.c4
      have c5 := VC.out.c5
      have CI := Lib.hid (is_any σ4.c σ4.a wc)
      clear HR2
      by_cases hc : σ4.c = 0
      · have e0 : (σ4.c == 0) = true := by simpa using hc
        rw [e0] at CI
        have HR4 := Lib.hid (HR3.out.trans (if_neg (by simp [hc])))
        clear HR3 hc e0
        go_wp2_with fail
        refine (CI.out).mono ?_; rintro e' w7 ⟨rfl, hb⟩
        have R7 := Lib.hid (R6.out.below hb)
        have X7 := Lib.hid (X6.out.gr (Gr.below (S := fun _ => False) hb) id)
        have F7 := Lib.hid (Fw.gr F6.out (Gr.below (S := fun _ => False) hb) (fun _ h => h.elim))
        clear hb CI R6 X6 F6 VC c4 c5
        have z0 : w7.drew.cell? ⟨X, 0, none⟩ = some (.string nm3) := X7.out.cell 0
        have z1 : w7.drew.cell? ⟨X, 1, none⟩ = some (.int .i64 kd3) := X7.out.cell 1
        have z2 : w7.drew.cell? ⟨X, 2, none⟩ = some (.int .i64 (at3 : Nat)) := X7.out.cell 2
        have z3 : w7.drew.cell? ⟨X, 3, none⟩ = some (.int .i64 sz3) := X7.out.cell 3
        have z4 : w7.drew.cell? ⟨X, 4, none⟩ = some (.int .i64 n3) := X7.out.cell 4
        have z5 : w7.drew.cell? ⟨X, 5, none⟩ = some (.string tx3) := X7.out.cell 5
        have z6 : w7.drew.cell? ⟨X, 6, none⟩ = some (.slice a3 m3 c3) := X7.out.cell 6
        have RD := Lib.hid (R7.out.below (Below.refl _ _).drew)
        have FD := Lib.hid (Fw.gr F7.out (Gr.below (S := fun _ => False) (Below.refl _ _).drew) (fun _ h => h.elim))
        go_upto_region 10 with fail
        go_region_with (go_at_call 34; refine (good_any _).mono ?_; rintro e w8 ⟨rfl, hb⟩; have z0 := keepCell hb z0; have z1 := keepCell hb z1; have z2 := keepCell hb z2; have z3 := keepCell hb z3; have z4 := keepCell hb z4; have z5 := keepCell hb z5; have z6 := keepCell hb z6; have R7 := Lib.hid (RD.out.below hb); have F7 := Lib.hid (Fw.gr FD.out (Gr.below (S := fun _ => False) hb) (fun _ h => h.elim)); have n0 := R7.out.nb; have f0 := R7.out.fb; have lt0 := R7.out.lt; rw [hB] at n0 f0 lt0; have hz : ∀ j, w8.frozen? ⟨B, j, none⟩ = false := fun j => n0.free j; have hz2 : ∀ j, w8.frozen? ⟨B + 1, j, none⟩ = false := (fun j => by unfold World.frozen?; rw [f0]; simp); have x0 : w8.cell? ⟨B, 0, none⟩ = some (.string ⟨#[]⟩) := n0.cell 0; have x1 : w8.cell? ⟨B, 1, none⟩ = some (.int .i64 0) := n0.cell 1; have x2 : w8.cell? ⟨B, 2, none⟩ = some (.int .i64 0) := n0.cell 2; have x3 : w8.cell? ⟨B, 3, none⟩ = some (.int .i64 0) := n0.cell 3; have x4 : w8.cell? ⟨B, 4, none⟩ = some (.int .i64 0) := n0.cell 4; have x5 : w8.cell? ⟨B, 5, none⟩ = some (.string ⟨#[]⟩) := n0.cell 5; have x6 : w8.cell? ⟨B, 6, none⟩ = some (.slice none 0 0) := n0.cell 6; have y0 : w8.cell? ⟨B + 1, 0, none⟩ = some (.int .i64 0) := (by unfold World.cell?; rw [f0]; rfl); have y1 : w8.cell? ⟨B + 1, 1, none⟩ = some (.int .i64 0) := (by unfold World.cell?; rw [f0]; rfl); clear n0 f0 hb)
        all_goals
          go_wp2_with fail
          refine bodyPost_ret (lr_results _ _ B (.string nm3) (.int .i64 kd3) (.int .i64 (at3 : Nat)) (.int .i64 sz3) (.int .i64 n3) (.string tx3) (.slice a3 m3 c3) (.int .i64 0) (.int .i64 (-1)) rfl rfl (by go_simp) (by go_simp) (by go_simp) (by go_simp) (by go_simp) (by go_simp) (by go_simp) (by go_simp) (by go_simp)) rfl ?_
          have q := R7.out.fin (N := .mk nm3 kd3 at3 sz3 n3 tx3 kl3) (kv := .slice a3 m3 c3) F7.out (by omega) (.string nm3) (.int .i64 kd3) (.int .i64 (at3 : Nat)) (.int .i64 sz3) (.int .i64 n3) (.string tx3) (.slice a3 m3 c3) (.int .i64 0) (.int .i64 (-1))
          rw [HBe.out] at q
          rw [HR4.out]
          exact ⟨_, rfl, by rw [HBe.out]; exact q.1, q.2, _, _, _, rfl⟩
      · have e0 : (σ4.c == 0) = false := by simpa using hc
        rw [e0] at CI
        have HR4 := Lib.hid (HR3.out.trans (if_pos hc))
        clear HR3 hc e0
        go_wp2_with fail
        refine (CI.out).mono ?_; rintro e' w7 ⟨rfl, hb⟩
        have R7 := Lib.hid (R6.out.below hb)
        have V7 := Lib.hid (VC.out.below hb)
        clear hb CI R6 X6 F6 VC c4 c5
        have c4 := V7.out.c4
        have c5 := V7.out.c5
        have hBG : ¬ B = G := by omega
        have hBG2 : ¬ B + 1 = G := by omega
        have hGB : ¬ G = B := by omega
        have hGB2 : ¬ G = B + 1 := by omega
        have n0 := R7.out.nb
        have f0 := R7.out.fb
        have lt0 := R7.out.lt
        rw [hB] at n0 f0 lt0
        have hz : ∀ j, w7.frozen? ⟨B, j, none⟩ = false := fun j => n0.free j
        have hz2 : ∀ j, w7.frozen? ⟨B + 1, j, none⟩ = false := fun j => by unfold World.frozen?; rw [f0]; simp
        have x0 : w7.cell? ⟨B, 0, none⟩ = some (.string ⟨#[]⟩) := n0.cell 0
        have x1 : w7.cell? ⟨B, 1, none⟩ = some (.int .i64 0) := n0.cell 1
        have x2 : w7.cell? ⟨B, 2, none⟩ = some (.int .i64 0) := n0.cell 2
        have x3 : w7.cell? ⟨B, 3, none⟩ = some (.int .i64 0) := n0.cell 3
        have x4 : w7.cell? ⟨B, 4, none⟩ = some (.int .i64 0) := n0.cell 4
        have x5 : w7.cell? ⟨B, 5, none⟩ = some (.string ⟨#[]⟩) := n0.cell 5
        have x6 : w7.cell? ⟨B, 6, none⟩ = some (.slice none 0 0) := n0.cell 6
        have y0 : w7.cell? ⟨B + 1, 0, none⟩ = some (.int .i64 0) := by unfold World.cell?; rw [f0]; rfl
        have y1 : w7.cell? ⟨B + 1, 1, none⟩ = some (.int .i64 0) := by unfold World.cell?; rw [f0]; rfl
        clear n0 f0
        go_upto_region 9 with fail
        go_region
        all_goals
          go_wp2_with fail
          refine bodyPost_ret (lr_results _ _ B (.string ⟨#[]⟩) (.int .i64 0) (.int .i64 0) (.int .i64 0) (.int .i64 0) (.string ⟨#[]⟩) (.slice none 0 0) (.int .i64 σ4.c) (.int .i64 σ4.a) rfl rfl (by go_simp) (by go_simp) (by go_simp) (by go_simp) (by go_simp) (by go_simp) (by go_simp) (by go_simp) (by go_simp)) rfl ?_
          have q := R7.out.fin (N := nd00) (kv := .slice none 0 0) (ndF_leaf (W.heap.size + 2) _ emp 0 0 0 0 emp) (by omega) (.string ⟨#[]⟩) (.int .i64 0) (.int .i64 0) (.int .i64 0) (.int .i64 0) (.string ⟨#[]⟩) (.slice none 0 0) (.int .i64 σ4.c) (.int .i64 σ4.a)
          rw [HBe.out] at q
          rw [HR4.out]
          exact ⟨_, rfl, by rw [HBe.out]; exact q.1.drew, NdAt.below (Below.refl _ _).drew _ _ q.2, _, _, _, rfl⟩
end
end Go.Proofs.YtkopjmofdnlplaaGreatDoor.Ly
