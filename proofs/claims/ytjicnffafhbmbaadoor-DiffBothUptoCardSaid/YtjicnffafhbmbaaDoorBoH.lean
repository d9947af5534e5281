/-
  PROVED HERE: sort.Slice at the document's changes: they fall. Conditions: as each theorem states.
-/
import Derived.Test.YtjicnffafhbmbaaDoorBoB
import Derived.Test.YtjicnffafhbmbaaDoorChv
import Derived.Test.YtjicnffafhbmbaaDoorTac
import Derived.Test.YtjicnffafhbmbaaDoorShelf
namespace Go.Proofs.YtjicnffafhbmbaaDoor.Bo
open Go.RowKit Go.Shelf Go.Lib Go.Sort
instance : Inhabited Ch := ⟨⟨0, 0, ⟨#[]⟩⟩⟩
def ltFr (x y : Ch) : Bool := decide (y.fr < x.fr)
theorem swo_fr : SWO ltFr := ⟨fun x => decide_eq_false (by omega), fun x y z h1 h2 => decide_eq_true (by have := of_decide_eq_true h1; have := of_decide_eq_true h2; omega), fun x y z h1 h2 => decide_eq_false (by have := of_decide_eq_false h1; have := of_decide_eq_false h2; omega)⟩
set_option maxRecDepth 100000 in
/-- The document's closure. -/
theorem less_any (blk off c n Bs : Nat) (W : World) (hb : W.cell? ⟨Bs, 0, none⟩ = some (.slice (some ⟨blk, off, none⟩) n c)) (f : Nat → Nat) (i j : Nat) (hi : i < n) (hj : j < n) (ci : W.cell? ⟨blk, off + i * 3, none⟩ = some (.int .i64 (f i : Nat))) (cj : W.cell? ⟨blk, off + j * 3, none⟩ = some (.int .i64 (f j : Nat))) :
    Calls Tryd.prog 10 #[.int .i64 i, .int .i64 j, .pointer (some ⟨Bs, 0, none⟩)] W fun e w' => e = .returned (.bool (decide (f j < f i))) ∧ ∃ q, w' = W.drewN q := by
  have i0 : (0 : Int) ≤ (i : Int) := by omega
  have j0 : (0 : Int) ≤ (j : Int) := by omega
  have i1 : (i : Int) < (n : Int) := by omega
  have j1 : (j : Int) < (n : Int) := by omega
  go_enter Tryd.func10, Tryd.ntmps10
  go_wp2_with fail
  go_quiet (fail)
  go_wp2_with fail
  go_ret
  exact ⟨by simp, nq, rfl⟩
theorem flatC_get (l : List Ch) (t : Nat) (h : t < l.length * 3) : (chCells l)[t]? = some ((flatK Ch.cells 3 l.toArray)[t]!) := by
  have h2 : t / 3 < l.length := by omega
  have e := chCells_get l (t / 3) (t % 3) h2 (by omega)
  rw [show t / 3 * 3 + t % 3 = t by omega] at e
  rw [e, get_flatK Ch.cells 3 l.toArray t (by simpa using h)]
  have hd : l.toArray[t / 3]! = l[t / 3] := by simp [h2]
  rw [hd]
  rcases (show t % 3 = 0 ∨ t % 3 = 1 ∨ t % 3 = 2 by omega) with e | e | e <;> rw [e] <;> rfl
theorem OwnC.holds {T : TypeId} {w : World} {B g n cap : Nat} {l : List Ch} (h : OwnC T w B (.slice (some ⟨g, 0, none⟩) n cap) l) : HoldsK Ch.cells 3 w g 0 l.toArray := by
  intro j hj
  rw [size_flatK] at hj
  have hj' : j < l.length * 3 := by simpa using hj
  have hc := World.ownsRow.cells h (g := g) rfl j _ (flatC_get l j hj')
  rw [Addr.add_mid] at hc
  refine ⟨hc, ?_⟩
  obtain ⟨_, h2 | ⟨g', cap', cur, e, _, hb, _⟩⟩ := h
  · exact absurd h2.1 (by simp)
  · simp only [Value.slice.injEq, Option.some.injEq, Addr.mk.injEq, and_true] at e
    obtain ⟨rfl, _⟩ := e
    simp [World.frozen?, hb]
theorem chv_holds {w : World} {g cap : Nat} {l : List Ch} (h : HoldsK Ch.cells 3 w g 0 l.toArray) (hc0 : l.length ≤ cap) : Chv w (.slice (some ⟨g, 0, none⟩) l.length cap) l := by
  have hc : ∀ t, t < l.length * 3 → w.cell? ⟨g, t, none⟩ = (chCells l)[t]? := fun t ht => by
    have := (h t (by rw [size_flatK]; simpa using ht)).1
    rw [Nat.zero_add] at this
    rw [this, flatC_get l t ht]
    rfl
  refine ⟨_, cap, rfl, hc0, fun j hj => ⟨_, rfl, ?_, ?_, ?_⟩⟩
  · rw [Addr.add_mid, Nat.zero_add, hc _ (by omega)]
    exact chCells_get l j 0 hj (by decide)
  · rw [Addr.add_mid, Nat.zero_add, hc _ (by omega)]
    exact chCells_get l j 1 hj (by decide)
  · rw [Addr.add_mid, Nat.zero_add, hc _ (by omega)]
    exact chCells_get l j 2 hj (by decide)
theorem below_grow0 (w : World) (os : Array Obj) (B : Nat) (hw : B ≤ w.heap.size) : Below B w (grow w os) := by
  refine ⟨rfl, rfl, rfl, by show w.heap.size ≤ (w.heap ++ os).size; simp, fun k hk => ?_⟩
  show (w.heap ++ os)[k]? = _
  rw [Array.getElem?_append_left (by omega)]
theorem below_sortC (w : World) (g : Nat) (d : Array Ch) (n : Nat) (os : Array Obj) (B : Nat) (hB : B ≤ g) (hw : B ≤ w.heap.size) : Below B w (grow (putRowK Ch.cells 3 (Sort.ahead w n) g 0 d) os) := by
  refine ⟨rfl, rfl, rfl, ?_, fun k hk => ?_⟩
  · show w.heap.size ≤ ((w.heap.modify g (onCells (putCells id 0 (flatK Ch.cells 3 d)))) ++ os).size
    simp
  · show ((w.heap.modify g (onCells (putCells id 0 (flatK Ch.cells 3 d)))) ++ os)[k]? = _
    rw [Array.getElem?_append_left (by simp; omega), Array.getElem?_modify, if_neg (by omega)]
noncomputable def svT : TypeInfo := (Tryd.prog.info? 34).get (by kernel_rfl)
noncomputable def svE : TypeInfo := (Tryd.prog.info? 37).get (by kernel_rfl)
theorem svK (n : Nat) (h2 : 2 ≤ n) : Lib.swapperK n svE 25 = 9 := by
  have a : svE.hasPointers = true := by kernel_rfl
  have b : svE.bytes = 32 := by kernel_rfl
  have c : (n == 0) = false := by simp; omega
  have d : (n == 1) = false := by simp; omega
  simp [Lib.swapperK, a, b, c, d]
theorem sort_two (W : World) (B blk c Bs : Nat) (L : List Ch) (h : OwnC 37 W B (.slice (some ⟨blk, 0, none⟩) L.length c) L) (hc : L.length ≤ c) (hBs : W.cell? ⟨Bs, 0, none⟩ = some (.slice (some ⟨blk, 0, none⟩) L.length c)) (hB1 : Bs < W.heap.size) (hB2 : Bs ≠ blk) (hn : L.length ≤ 100000) (h2 : 2 ≤ L.length) :
    Calls Tryd.prog 9 #[.iface 34 (.slice (some ⟨blk, 0, none⟩) L.length c), .func (.func 10) #[] #[.pointer (some ⟨Bs, 0, none⟩)]] W fun e w' =>
      e = .returned (.tuple #[]) ∧ ∃ M : List Ch, M.Perm L ∧ (M.Pairwise fun x y => y.fr ≤ x.fr) ∧ Chv w' (.slice (some ⟨blk, 0, none⟩) L.length c) M ∧ Below B W w' ∧ w'.cell? ⟨Bs, 0, none⟩ = some (.slice (some ⟨blk, 0, none⟩) L.length c) := by
  have hlt := World.ownsRow.lt h blk rfl
  have hH := OwnC.holds h
  have hsL : L.toArray.size = L.length := by simp
  have hless : LessReadsK Tryd.prog 10 #[.pointer (some ⟨Bs, 0, none⟩)] Ch.cells 3 ltFr blk 0 L.toArray.size W := by
    intro m os dk hs i j hi hj
    have e : sortWorldK Ch.cells 3 W blk 0 m dk os = putRowK Ch.cells 3 (grow (Sort.ahead W m) os) blk 0 dk := by
      unfold sortWorldK; rw [putRowK_grow _ _ (Sort.ahead W m) _ blk 0 _ hlt.2]
    have hHg : HoldsK Ch.cells 3 (grow (Sort.ahead W m) os) blk 0 L.toArray := holdsK_grow _ _ _ _ blk 0 _ hlt.2 (holdsK_ahead _ _ _ _ _ _ _ hH)
    have hcell : ∀ t, t < L.length → (sortWorldK Ch.cells 3 W blk 0 m dk os).cell? ⟨blk, 0 + t * 3, none⟩ = some (.int .i64 ((dk[t]!).fr : Nat)) := fun t ht => by
      rw [e]; exact ((holdsK_putRowK _ _ _ blk 0 L.toArray dk hHg hs).cell (i := t) (c := 0) (by omega) (by omega)).1
    have hb : (sortWorldK Ch.cells 3 W blk 0 m dk os).cell? ⟨Bs, 0, none⟩ = some (.slice (some ⟨blk, 0, none⟩) L.length c) := by
      rw [e, cell?_putRowK_other _ _ _ blk 0 dk _ (by exact hB2), cell?_grow _ _ _ (by exact hB1)]; exact hBs
    exact less_any blk 0 c L.length Bs _ hb (fun t => (dk[t]!).fr) i j (by omega) (by omega) (hcell i (by omega)) (hcell j (by omega))
  have hcon := Any.sort_Slice_cells_sorted Tryd.laysGg6 34 37 svT svE (by kernel_rfl) (by kernel_rfl) (by kernel_rfl) (by kernel_rfl) 25 (fun _ => by kernel_rfl) Ch.cells 3 (fun _ => rfl) (by kernel_rfl) (fun _ => by kernel_rfl)
    (fun x v hv => by simp [Ch.cells] at hv; rcases hv with rfl | rfl | rfl <;> rfl) ltFr swo_fr 10 _
    (enters_of Tryd.func10 (by kernel_rfl) rfl) blk 0 c L.toArray (by omega) (by omega) 34 (by rw [svK _ (by omega)]; kernel_rfl) false
    (fun args W => run_callFunc_extern Tryd.func34 (by kernel_rfl) (by kernel_rfl) (by kernel_rfl) (e := Extern.ReflectliteSwapper.swap false) (by kernel_rfl) args W) W hless hH hlt.2
  rw [hsL] at hcon
  change Calls Tryd.prog 9 _ _ _ at hcon
  refine Calls.mono hcon ?_
  rintro e w' ⟨rfl, d', n, os, hp, hs, rfl⟩
  have hsz : d'.size = L.length := by simpa using hp.1
  have hperm : d'.toList.Perm L := by
    have := hp.2.2
    rw [show L.length = d'.size by simp [hsz]] at this
    simp only [Array.toList_extract, List.extract_eq_take_drop] at this
    simpa [hsz, List.take_of_length_le (l := d'.toList) (i := L.length) (by simp [hsz])] using this
  have hHw : HoldsK Ch.cells 3 (grow (putRowK Ch.cells 3 (Sort.ahead W n) blk 0 d') os) blk 0 d' := holdsK_grow _ _ _ _ blk 0 _ (by rw [size_putRowK]; exact hlt.2) (holdsK_putRowK _ _ _ blk 0 L.toArray d' (holdsK_ahead _ _ _ _ _ _ _ hH) (by simp [hsz]))
  refine ⟨rfl, d'.toList, hperm, ?_, ?_, below_sortC W blk d' n os B hlt.1 (by omega), ?_⟩
  · rw [List.pairwise_iff_getElem]
    intro i j hi hj hij
    have hj' : j < d'.size := by simpa using hj
    have := hs i j (Nat.zero_le _) hij (by omega)
    have h2 : ¬ (d'[i]!).fr < (d'[j]!).fr := of_decide_eq_false this
    have e1 : d'[j]! = d'[j] := by simp [hj']
    have e2 : d'[i]! = d'[i] := by simp [show i < d'.size by omega]
    rw [e1, e2] at h2
    simp only [Array.getElem_toList]
    omega
  · have := chv_holds (l := d'.toList) (cap := c) (w := grow (putRowK Ch.cells 3 (Sort.ahead W n) blk 0 d') os) (g := blk) (by simpa using hHw) (by simp [hsz]; exact hc)
    simpa [hsz] using this
  · rw [cell?_grow _ _ _ (by rw [size_putRowK]; exact hB1), cell?_putRowK_other _ _ _ blk 0 d' _ (by exact hB2)]; exact hBs
theorem sort_all (W : World) (B Bs : Nat) (v : Value) (L : List Ch) (h : OwnC 37 W B v L) (hBW : B ≤ W.heap.size) (hBs : W.cell? ⟨Bs, 0, none⟩ = some v) (hB1 : Bs < W.heap.size) (hB2 : v.ownBlock ≠ some Bs) (hn : L.length ≤ 100000) :
    Calls Tryd.prog 9 #[.iface 34 v, .func (.func 10) #[] #[.pointer (some ⟨Bs, 0, none⟩)]] W fun e w' =>
      e = .returned (.tuple #[]) ∧ ∃ M : List Ch, M.Perm L ∧ (M.Pairwise fun x y => y.fr ≤ x.fr) ∧ Chv w' v M ∧ Below B W w' ∧ w'.cell? ⟨Bs, 0, none⟩ = some v := by
  have hsh := h.show_
  obtain ⟨a, c, rfl, hc, -⟩ := id hsh
  by_cases h2 : 2 ≤ L.length
  · rcases h.2 with ⟨_, h0⟩ | ⟨g, cap, cur, hv, _⟩
    · omega
    · simp only [Value.slice.injEq] at hv
      obtain ⟨rfl, -, rfl⟩ := hv
      exact sort_two W B g c Bs L h hc hBs hB1 (fun e => hB2 (by rw [e]; rfl)) hn h2
  · have hcon : ∃ f, Tryd.prog.funcs.findIdx? (·.name == "internal/reflectlite" ++ ".Swapper$" ++ toString (swapperK L.length svE 25)) = some f := by
      rcases (show L.length = 0 ∨ L.length = 1 by omega) with e | e
      · rw [e]; exact ⟨26, by rw [show swapperK 0 svE 25 = 1 from rfl]; kernel_rfl⟩
      · rw [e]; exact ⟨27, by rw [show swapperK 1 svE 25 = 2 from rfl]; kernel_rfl⟩
    obtain ⟨f, hf⟩ := hcon
    have hcon := Any.sort_Slice_tiny Tryd.laysGg6 34 37 svT svE (by kernel_rfl) (by kernel_rfl) (by kernel_rfl) (by kernel_rfl) 25 (fun _ => by kernel_rfl) a L.length c (by omega) f hf (.func 10) #[] #[.pointer (some ⟨Bs, 0, none⟩)] W
    change Calls Tryd.prog 9 _ _ _ at hcon
    refine Calls.mono hcon ?_
    rintro e w' ⟨rfl, os, rfl⟩
    have hb := below_grow0 W os W.heap.size (Nat.le_refl _)
    refine ⟨rfl, L, List.Perm.refl _, ?_, hsh.below hb, hb.mono hBW, (hb.cell (p := ⟨Bs, 0, none⟩) hB1).trans hBs⟩
    rcases L with _ | ⟨x, _ | ⟨y, l⟩⟩
    · exact List.Pairwise.nil
    · exact List.pairwise_singleton _ _
    · simp at h2
end Go.Proofs.YtjicnffafhbmbaaDoor.Bo
