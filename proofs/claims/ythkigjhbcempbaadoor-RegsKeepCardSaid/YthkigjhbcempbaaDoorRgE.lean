/-
  PROVED HERE: the contracts of regs' Cut and of the document's. Conditions: as each theorem states.
-/
import Derived.Test.YthkigjhbcempbaaDoorRgD
import Derived.Laws.CopyOwn
import Derived.Deep.Upon
import Derived.Deep.RegionLaw
namespace Go.Proofs.YthkigjhbcempbaaDoor.Rg
open Go.RowKit
theorem put_any (w : World) (g n : Nat) (mo : Option Nat) (f : Nat → ByteArray) (C : List ByteArray) (c : Nat) (t : ByteArray) (hG : GR w g mo f n C) (hc : c < 256) (hf : ∀ k, k < 256 → (f k).size ≤ 10000) (ht : t.size ≤ 10000) :
    Calls Tryd.prog 7 #[.pointer (some ⟨g, 0, none⟩), .int .u8 c, .string t] w (PutP g n mo f C c t w) := by
  by_cases hn : nm c = false
  · exact put_no w g n mo f C c t hG hc hn
  · exact put_yes w g n mo f C c t hG hc (by simpa using hn) hf ht
/-- copy of cells, at a step of a region that draws its order. -/
theorem copy_step {P : Program} {ops : Array Oper} {o : Oper} {a : Act} {w : World} {K : Act → World → Prop} {Q : Exit → Act → World → Prop} {F : Prop} (hgd : o.guard = none) (d s : Operand) (dT sT : TypeId)
    (ho : o.op = .call { callee := .builtin .copy, args := #[d, s], argTypes := #[dT, sT] }) (elem : TypeId) (hu : P.underlying dT = some (.slice elem)) (hsz : (P.info? elem).map (·.size) = some 1)
    (g off dLen dCap sLen sCap : Nat) (ad : Addr) (hd : a.eval d = .slice (some ⟨g, off, none⟩) dLen dCap) (hs : a.eval s = .slice (some ad) sLen sCap) (cs : List Value) (hn : cs.length = Nat.min sLen dLen)
    (hsrc : ∀ j v, cs[j]? = some v → w.cell? (ad.add j) = some v) (hc : ∀ j, j < cs.length → (w.cell? ⟨g, off + j, none⟩).isSome = true) (hf : ∀ j, j < cs.length → w.frozen? ⟨g, off + j, none⟩ = false) (h1 : ∀ v ∈ cs, v.oneCell' = true)
    (h : K (a.put o.dst (goInt cs.length)) (w.setCells g off cs)) :
    if Region.wanted o (yielded ops a.tmps) = true then Oper.wp P o a w K Q else F := by
  have hw : Region.wanted o (yielded ops a.tmps) = true := by simp [Region.wanted, hgd]
  rw [if_pos hw]
  have hrun := run_copy_cells (P := P) w dT sT o.type elem g off dLen dCap ad sLen sCap cs hu hsz hn hsrc hc hf h1
  unfold Oper.wp
  simp [execOp, ho, resolve, invoke, builtin, hd, hs, hrun, Result.andThen]
  exact h
def strs (C : List ByteArray) : List Value := C.map Value.string
theorem cut_mem {w : World} {g n : Nat} {mo : Option Nat} {f : Nat → ByteArray} {C : List ByteArray} (h : GR w g mo f n C) (t : ByteArray) :
    GR ((w.setCells g 2 (strs (C.take 8))).setCell ⟨g, 1, none⟩ (.string t)) g mo f n (t :: C.take 8) ∧ Keeps (fun k => k = g) w ((w.setCells g 2 (strs (C.take 8))).setCell ⟨g, 1, none⟩ (.string t)) ∧
    (∃ u, (w.setCells g 2 (strs (C.take 8))).cell? ⟨g, 1, none⟩ = some u) ∧ (w.setCells g 2 (strs (C.take 8))).frozen? ⟨g, 1, none⟩ = false := by
  have hl := h.len
  have hgs : g < w.heap.size := World.block_lt_of_cell? w _ h.c0
  have hsl : (strs (C.take 8)).length = 8 := by simp [strs]; omega
  have hin : ∀ j, j < (strs (C.take 8)).length → (w.cell? ⟨g, 2 + j, none⟩).isSome = true := fun j hj => by
    rw [hsl] at hj
    rw [show 2 + j = (j + 1) + 1 by omega, h.cs (j + 1) (by omega)]; rfl
  have q1 : (w.setCells g 2 (strs (C.take 8))).cell? ⟨g, 1, none⟩ = some (.string C[0]) := by
    rw [World.cell?_setCells_out g _ _ _ _ (fun _ _ => .inl (by simp))]
    exact h.cs 0 (by omega)
  have hout0 : (w.setCells g 2 (strs (C.take 8))).cell? ⟨g, 0, none⟩ = some (.map mo) := by
    rw [World.cell?_setCells_out g _ _ _ _ (fun _ _ => .inl (by simp))]
    exact h.c0
  have hsz : ∀ (vs : List Value) (o : Nat) (w : World), (w.setCells g o vs).heap.size = w.heap.size := by
    intro vs
    induction vs with
    | nil => intro o w; rfl
    | cons v r ih => intro o w; rw [World.setCells, ih]; simp [World.setCell]
  have hos : ∀ (vs : List Value) (o : Nat) (w : World), (w.setCells g o vs).os = w.os ∧ (w.setCells g o vs).tape = w.tape ∧ (w.setCells g o vs).output = w.output := by
    intro vs
    induction vs with
    | nil => intro o w; exact ⟨rfl, rfl, rfl⟩
    | cons v r ih => intro o w; rw [World.setCells]; exact ih _ _
  have K : Keeps (fun k => k = g) w (w.setCells g 2 (strs (C.take 8))) := ⟨(hos _ _ _).1, (hos _ _ _).2.1, (hos _ _ _).2.2, by rw [hsz]; exact Nat.le_refl _, fun k hk hn => World.heap_setCells_other w g 2 _ hk hn⟩
  refine ⟨⟨?_, fun i hi => ?_, by simp; omega, fun j => ?_, fun b e => ?_, h.no⟩, K.setCell (p := ⟨g, 1, none⟩) (.inl rfl) _, ⟨_, q1⟩, by rw [World.frozen?_setCells]; exact h.fz 1⟩
  · rw [World.cell?_setCell_other _ _ _ _ (by intro hh; simp at hh)]; exact hout0
  · cases i with
    | zero => exact World.cell?_setCell_same _ _ _ q1
    | succ i =>
      have hi' : i < 8 := by simp at hi; omega
      rw [World.cell?_setCell_other _ _ _ _ (by intro hh; simp at hh)]
      rw [show i + 1 + 1 = 2 + i by omega, World.cell?_setCells_in g _ 2 w hin i (by omega)]
      simp [strs]
  · rw [frozen?_setCell, World.frozen?_setCells]; exact h.fz j
  · have hb := h.yes b e
    refine ⟨hb.1, (hb.2.keeps K hb.1).keeps (S := fun k => k = g) ((Keeps.refl (fun k => k = g) _).setCell (p := ⟨g, 1, none⟩) (.inl rfl) _) hb.1⟩
theorem cut_src {w : World} {g : Nat} {C : List ByteArray} (hcs : ∀ i (h : i < C.length), w.cell? ⟨g, i + 1, none⟩ = some (.string C[i])) (hl : C.length = 9) (j : Nat) (v : Value) (hv : (strs (C.take 8))[j]? = some v) : w.cell? ((⟨g, 1, none⟩ : Addr).add j) = some v := by
  obtain ⟨hj, e⟩ := List.getElem?_eq_some_iff.1 hv
  have hj' : j < 8 := by simp [strs] at hj; omega
  have h := hcs j (by omega)
  rw [← e]
  have h2 : (strs (C.take 8))[j] = .string C[j] := by simp [strs]
  rw [h2, ← h]
  unfold Addr.add
  by_cases h0 : j = 0
  · subst h0; rfl
  · simp [h0, Nat.add_comm]
theorem cut_dst {w : World} {g : Nat} {C : List ByteArray} (hcs : ∀ i (h : i < C.length), w.cell? ⟨g, i + 1, none⟩ = some (.string C[i])) (hl : C.length = 9) (j : Nat) (hj : j < 8) : (w.cell? ⟨g, 2 + j, none⟩).isSome = true := by
  rw [show 2 + j = (j + 1) + 1 by omega, hcs (j + 1) (by omega)]; rfl
theorem strs_one (C : List ByteArray) : ∀ v ∈ strs C, v.oneCell' = true := by
  intro v hv
  unfold strs at hv
  rw [List.mem_map] at hv
  obtain ⟨x, _, rfl⟩ := hv
  rfl
def CutP (g n : Nat) (mo : Option Nat) (f : Nat → ByteArray) (C : List ByteArray) (c : Nat) (t : ByteArray) (w : World) (e : Ending) (w' : World) : Prop :=
  ∃ mo', e = .returned (errV (code f c t)) ∧ GR w' g mo' (putF f c t) (n + 2) (if code f c t = 0 then t :: C.take 8 else C) ∧ Keeps (fun k => k = g ∨ mo = some k) w w' ∧ ∀ b, mo' = some b → mo = some b ∨ w.heap.size ≤ b
set_option maxRecDepth 100000 in
set_option maxHeartbeats 2000000 in
theorem cut_any (w : World) (g n : Nat) (mo : Option Nat) (f : Nat → ByteArray) (C : List ByteArray) (c : Nat) (t : ByteArray) (hG : GR w g mo f n C) (hc : c < 256) (hf : ∀ k, k < 256 → (f k).size ≤ 10000) (ht : t.size ≤ 10000) :
    Calls Tryd.prog 9 #[.pointer (some ⟨g, 0, none⟩), .int .u8 c, .string t] w (CutP g n mo f C c t w) := by
  have PA := Lib.hid (put_any w g n mo f C c t hG hc hf ht)
  unfold CutP
  unfold PutP at PA
  generalize code f c t = k at *
  generalize putF f c t = F at *
  clear hG hf
  by_cases hk : k = 0
  · subst hk
    rw [if_pos rfl]
    go_enter Tryd.func9, Tryd.ntmps9
    go_wp2_with fail
    refine PA.out.mono ?_; rintro e w1 ⟨mo', rfl, hG1, hK1, hm1⟩
    have hev : errV 0 = .nilIface := rfl
    rw [hev]
    have hl := hG1.len
    have GD := hG1.drew
    obtain ⟨hG2, hK2, ⟨u, hu⟩, hfz⟩ := cut_mem GD t
    have G2 := Lib.hid hG2
    have KK := Lib.hid ((hK1.drew).trans hK2 (fun j h => .inl (.inl h)))
    have ML := Lib.hid hm1
    have hcs := Lib.hid GD.cs
    have hfzd := Lib.hid GD.fz
    have hl8 : (strs (C.take 8)).length = 8 := by simp [strs]; omega
    have hL8 := Lib.hid hl8
    have hLC := Lib.hid hl
    have h81 : ((8 : Nat) : Int) = 8 := rfl
    clear hG1 hK1 hG2 hK2 GD PA hm1 hl8 hl
    go_wp2_with fail
    go_region_law ((refine copy_step (by rfl) (.tmp 18) (.tmp 22) 57 57 (by rfl) 9 Tryd.underlying57 (by kernel_rfl) g 2 8 8 8 9 ⟨g, 1, none⟩ (by first | (go_simp; done) | (simp [Act.eval, Act.put]; done)) (by first | (go_simp; done) | (simp [Act.eval, Act.put]; done)) (strs (C.take 8)) (by rw [hL8.out]; rfl) (fun j v hv => cut_src hcs.out hLC.out j v hv) (fun j hj => cut_dst hcs.out hLC.out j (by rw [hL8.out] at hj; exact hj)) (fun j _ => hfzd.out _) (fun v hv => strs_one _ v hv) ?_))
    all_goals
      go_wp2_with fail
      go_ret
      exact ⟨mo', rfl, G2.out, KK.out, ML.out⟩
  · rw [if_neg hk]
    have hev : errV k = .iface 35 (.int .i64 k) := by unfold errV; rw [if_neg hk]
    rw [hev] at PA ⊢
    go_enter Tryd.func9, Tryd.ntmps9
    go_wp2_with fail
    refine PA.out.mono ?_; rintro e w1 ⟨mo', rfl, hG1, hK1, hm1⟩
    have G1 := Lib.hid hG1
    have KK := Lib.hid hK1
    have ML := Lib.hid hm1
    clear hG1 hK1 PA hm1
    go_wp2_with fail
    go_ret
    exact ⟨mo', rfl, G1.out, KK.out, ML.out⟩
end Go.Proofs.YthkigjhbcempbaaDoor.Rg
