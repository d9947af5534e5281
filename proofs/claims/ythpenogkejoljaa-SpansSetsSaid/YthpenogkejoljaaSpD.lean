/-
  PROVED HERE: slices.SortFunc at the program's spans. Conditions: as each theorem states.
-/
import Derived.Test.YthpenogkejoljaaSpC
import Derived.Test.YthpenogkejoljaaShelf
import Derived.Shelf.SlSortCmp.WholeK
import Derived.Shelf.SlSortCmp.NoneTotal
namespace Go.Proofs.Ythpenogkejoljaa.Sp
open Go.RowKit Go.Shelf Go.Lib Go.Sort
def cmpS (x y : Spn) : Int := if x.1 < y.1 then -1 else if y.1 < x.1 then 1 else 0
theorem lt_cmpS (x y : Spn) : ltOf cmpS x y = decide (x.1 < y.1) := by
  unfold ltOf cmpS
  by_cases h1 : x.1 < y.1
  · simp [h1]
  · by_cases h2 : y.1 < x.1 <;> simp [h1, h2]
theorem swo_cmpS : SWO (ltOf cmpS) where
  irrefl x := by rw [lt_cmpS]; simp
  trans x y z h1 h2 := by rw [lt_cmpS] at *; simp at *; omega
  ntrans x y z h1 h2 := by rw [lt_cmpS] at *; simp at *; omega
set_option maxRecDepth 100000 in
theorem cmp_any (x y : Spn) (W : World) : Calls Try.prog 29 #[.agg #[.int .i64 x.1, .int .i64 x.2], .agg #[.int .i64 y.1, .int .i64 y.2]] W fun e w' => e = .returned (.int .i64 (cmpS x y)) ∧ ∃ q os', w' = grow (W.drewN q) os' := by
  obtain ⟨a, b⟩ := x
  obtain ⟨c, d⟩ := y
  simp only
  by_cases h1 : a < c
  · have hr : cmpS (a, b) (c, d) = -1 := if_pos h1
    rw [hr]
    go_enter Try.func29, Try.ntmps29
    go_wp2_with fail
    go_ret
    exact ⟨rfl, 0, _, by rw [alloc_eq_grow, alloc_eq_grow, grow_grow]; rfl⟩
  by_cases h2 : c < a
  · have hr : cmpS (a, b) (c, d) = 1 := (if_neg h1).trans (if_pos h2)
    rw [hr]
    go_enter Try.func29, Try.ntmps29
    go_wp2_with fail
    go_ret
    exact ⟨rfl, 0, _, by rw [alloc_eq_grow, alloc_eq_grow, grow_grow]; rfl⟩
  · have hr : cmpS (a, b) (c, d) = 0 := (if_neg h1).trans (if_neg h2)
    rw [hr]
    go_enter Try.func29, Try.ntmps29
    go_wp2_with fail
    go_ret
    exact ⟨rfl, 0, _, by rw [alloc_eq_grow, alloc_eq_grow, grow_grow]; rfl⟩
theorem flat_get (l : List Spn) (t : Nat) (h : t < l.length * 2) : (spCells l)[t]? = some ((flatK spc 2 l.toArray)[t]!) := by
  have h2 : t / 2 < l.length := by omega
  have e := spCells_get l (t / 2) (t % 2) h2 (by omega)
  rw [show t / 2 * 2 + t % 2 = t by omega] at e
  rw [e, get_flatK spc 2 l.toArray t (by simpa using h)]
  have hd : l.toArray[t / 2]! = l[t / 2] := by simp [h2]
  rw [hd]
  rcases (show t % 2 = 0 ∨ t % 2 = 1 by omega) with e | e <;> rw [e] <;> rfl
theorem OwnS.holds {w : World} {B g n cap : Nat} {l : List Spn} (h : OwnS w B (.slice (some ⟨g, 0, none⟩) n cap) l) : HoldsK spc 2 w g 0 l.toArray := by
  intro j hj
  rw [size_flatK] at hj
  have hj' : j < l.length * 2 := by simpa using hj
  have hc := World.ownsRow.cells h (g := g) rfl j _ (flat_get l j hj')
  rw [Addr.add_mid] at hc
  refine ⟨hc, ?_⟩
  obtain ⟨_, h2 | ⟨g', cap', cur, e, _, hb, _⟩⟩ := h
  · exact absurd h2.1 (by simp)
  · simp only [Value.slice.injEq, Option.some.injEq, Addr.mk.injEq, and_true] at e
    obtain ⟨rfl, _⟩ := e
    simp [World.frozen?, hb]
theorem sps_holds {w : World} {g cap : Nat} {l : List Spn} (h : HoldsK spc 2 w g 0 l.toArray) : Sps w (.slice (some ⟨g, 0, none⟩) l.length cap) l := by
  have hc : ∀ t, t < l.length * 2 → w.cell? ⟨g, t, none⟩ = (spCells l)[t]? := fun t ht => by
    have := (h t (by rw [size_flatK]; simpa using ht)).1
    rw [Nat.zero_add] at this
    rw [this, flat_get l t ht]
    rfl
  refine ⟨_, cap, rfl, fun j hj => ⟨_, rfl, ?_, ?_⟩⟩
  · rw [Addr.add_mid, Nat.zero_add, hc _ (by omega)]
    exact spCells_get l j 0 hj (by decide)
  · rw [Addr.add_mid, Nat.zero_add, hc _ (by omega)]
    exact spCells_get l j 1 hj (by decide)
theorem below_sort (w : World) (g : Nat) (d : Array Spn) (n : Nat) (os : Array Obj) (B : Nat) (hB : B ≤ g) (hw : B ≤ w.heap.size) : Below B w (sortWorldK spc 2 w g 0 n d os) := by
  refine ⟨rfl, rfl, rfl, size_sortWorldK_c _ _ _ _ _ _ _ _, fun k hk => ?_⟩
  show ((w.heap.modify g (onCells (putCells id 0 (flatK spc 2 d)))) ++ os)[k]? = _
  rw [Array.getElem?_append_left (by simp; omega), Array.getElem?_modify, if_neg (by omega)]
theorem sort_any (w : World) (B g cap : Nat) (d : List Spn) (h : OwnS w B (.slice (some ⟨g, 0, none⟩) d.length cap) d) (hn : d.length ≤ 100000) :
    Calls Try.prog 28 #[.slice (some ⟨g, 0, none⟩) d.length cap, .func (.func 29) #[] #[]] w fun e w' => e = .returned (.tuple #[]) ∧ ∃ d' : List Spn, d'.Perm d ∧ (∀ i j, ∀ _h1 : i < j, ∀ h : j < d'.length, (d'[i]'(by omega)).1 ≤ d'[j].1) ∧ Sps w' (.slice (some ⟨g, 0, none⟩) d.length cap) d' ∧ Below B w w' := by
  have eg : ∀ args w, (callFunc 29 args).run Try.prog w = .ok (.enter 29 args) w := enters_of Try.func29 (by kernel_rfl) rfl
  have hlt := World.ownsRow.lt h g rfl
  have hH := OwnS.holds h
  have hcon := AnyQ.slices_SortFunc Try.sortSpan 2 Try.isAgg26 Try.sizeOf26 spc (fun _ => rfl) (fun x v hv => by simp [spc] at hv; rcases hv with rfl | rfl <;> rfl) cmpS swo_cmpS 29 #[] g 0 cap d.toArray w eg (fun _ _ _ _ x y => cmp_any x y _) hH hlt.2 (by simp; omega)
  change Calls Try.prog 28 _ _ _ at hcon
  refine Calls.mono hcon ?_
  rintro e w' ⟨rfl, d', n, os, hp, hs, rfl⟩
  have hsz : d'.size = d.length := by simpa using hp.1
  have hperm : d'.toList.Perm d := by
    have := hp.2.2
    rw [show d.toArray.size = d'.size by simp [hsz]] at this
    simp only [Array.toList_extract, List.extract_eq_take_drop] at this
    simpa [hsz, List.take_of_length_le (l := d'.toList) (i := d.length) (by simp [hsz])] using this
  refine ⟨rfl, d'.toList, hperm, fun i j hij hj => ?_, ?_, below_sort w g d' n os B hlt.1 (by omega)⟩
  · have hj' : j < d'.size := by simpa using hj
    have := hs i j (Nat.zero_le _) hij (by simp; omega)
    rw [lt_cmpS] at this
    have h2 : ¬ (d'[j]!).1 < (d'[i]!).1 := by simpa using this
    have e1 : d'[j]! = d'[j] := by simp [hj']
    have e2 : d'[i]! = d'[i] := by simp [show i < d'.size by omega]
    rw [e1, e2] at h2
    simp only [Array.getElem_toList]
    omega
  · have hh := holdsK_sortWorldK_c spc 2 w g 0 d.toArray d' n os hH hlt.2 (by simpa using hsz)
    have := sps_holds (l := d'.toList) (cap := cap) (by simpa using hh)
    simpa [hsz] using this
theorem sort_none (w : World) : Calls Try.prog 28 #[.slice none 0 0, .func (.func 29) #[] #[]] w fun e w' => e = .returned (.tuple #[]) ∧ w' = w := by
  have hcon := AnyF.slices_SortFunc_none Try.sortSpan none 0 (.func (.func 29) #[] #[]) w
  change Calls Try.prog 28 _ _ _ at hcon
  exact hcon
end Go.Proofs.Ythpenogkejoljaa.Sp
