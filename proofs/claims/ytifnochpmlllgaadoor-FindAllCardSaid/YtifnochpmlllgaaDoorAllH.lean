/-
  PROVED HERE: the contract of find.Prev where the pattern stands somewhere. Conditions: as each theorem states.
-/
import Derived.Test.YtifnochpmlllgaaDoorAllG
namespace Go.Proofs.YtifnochpmlllgaaDoor.All
open Go.RowKit Go.Shelf
attribute [local go_sem] Oper.semAt_some
theorem bk_mem (zs : List Int) (n r j : Nat) (hj : j < n) (hr : r ≤ j) : (j, zs[j]?.getD 0) ∈ bk zs n r := by
  unfold bk
  rw [List.mem_map]
  refine ⟨n - 1 - j, List.mem_range.2 (by omega), ?_⟩
  rw [show n - 1 - (n - 1 - j) = j by omega]
theorem opt_get (l : List Int) (j : Nat) (hj : j < l.length) : l[j]?.getD 0 = l[j] := by rw [List.getElem?_eq_getElem hj]; rfl
set_option maxRecDepth 100000 in
set_option maxHeartbeats 4000000 in
theorem prev_some (s p : ByteArray) (f : Int) (hs : s.size ≤ 1000) (hp1 : 1 ≤ p.size) (hp : p.size ≤ 1000) (W : World) (hne : al s p s.size ≠ []) :
    Calls Tryd.prog 58 #[.string s, .string p, .int .i64 f] W (NQ (pv (al s p s.size) f) 0 W) := by
  have CB := Lib.hid (all_yes s p hs hp1 hp)
  have hll := al_len s p s.size
  generalize al s p s.size = l at *
  have hl1 : 1 ≤ l.length := by cases l; exact absurd rfl hne; simp
  have b0 : ((l.length : Int) == 0) = false := by rw [beq_eq_false_iff_ne]; omega
  clear hne
  obtain ⟨b5, b6, b7, hz, hB⟩ := base_cells W f
  refine (callsIn_wide (n := 6)).1 ?_
  refine callsIn_of_wp_marks Tryd.func58 rfl trivial ?_ rfl
  simp only [Tryd.ntmps58, List.size_toArray, List.length_cons, List.length_nil, Nat.reduceAdd, Nat.reduceSub, Array.replicate_succ, Array.replicate_zero, List.push_toArray, List.append_toArray, List.nil_append, List.cons_append]
  gi_wp2_with (refine ⟨trivial, ?_⟩; gi_at_call 55; refine (callsIn_wide.2 (CB.out _)).mono ?_; rintro e w1 ⟨v, rfl, ⟨a, cap, rfl, hc⟩, h1⟩; rw [show ev 0 = .nilIface from rfl])
  refine ⟨trivial, (back_in Fence.wide 5 trivial rfl _ _ _ _).mono ?_⟩; rintro e w2 ⟨rfl, rfl⟩
  have h1' : Below (base W f).heap.size (base W f) w1 := h1
  have hsz : W.heap.size + 3 ≤ w1.heap.size := by have := h1'.size; omega
  have HB := hB.trans (h1'.mono (by omega))
  have b7' : Boxed (base W f) (W.heap.size + 1 + 1) 27 .nilIface := b7
  have hbx : Below w1.heap.size w1 (w1.alloc (.cells #[.slice a l.length cap] 50)) := (Below.refl _ _).alloc (Nat.le_refl _) _
  have g5 := keepCell hbx (keepCell h1' b5.cell)
  have g6 := keepCell hbx (keepCell h1' b6.cell)
  have g7 := keepCell hbx (keepCell h1' b7'.cell)
  have f6 := keepFree hbx (keepCell h1' b6.cell) (keepFree h1' b6.cell b6.frozen)
  have f7 := keepFree hbx (keepCell h1' b7'.cell) (keepFree h1' b7'.cell b7'.frozen)
  have bx := Boxed.new w1 50 (.slice a l.length cap)
  have HB2 := HB.trans (hbx.mono HB.size)
  obtain ⟨ad, rfl, hc0⟩ := hc 0 (by omega)
  have hcs : ∀ j, j < l.length → w1.cell? (ad.add j) = some (.int .i64 (l[j]?.getD 0)) := fun j hj => by
    obtain ⟨ad', e, h⟩ := hc j hj
    obtain rfl : ad = ad' := Option.some.inj e
    rw [h, List.getElem?_eq_getElem hj]; rfl
  have hbb : ∀ j, j < l.length → (ad.add j).block < w1.heap.size + 1 := fun j hj => Nat.lt_succ_of_lt (World.block_lt_of_cell? _ _ (hcs j hj))
  have hlast := hbx.cell (p := ad.add (l.length - 1)) (World.block_lt_of_cell? _ _ (hcs _ (by omega)))
  rw [hcs _ (by omega)] at hlast
  have hend : l.getD (l.length - 1) 0 = l[l.length - 1]?.getD 0 := List.getD_eq_getElem?_getD
  generalize hzl : l[l.length - 1]?.getD 0 = zl at *
  clear hc hc0 h1 h1' hbx b5 b6 b7 b7' hB HB
  gi_wp2_with fail
  refine wpIn_rangeFunc_ownG rfl (by decide) (gf := 111) (lb := #[.pointer (some ⟨w1.heap.size, 0, none⟩)]) rfl trivial (enters_of Tryd.func111 (by kernel_rfl) rfl)
    (back_stops Fence.wide 5 trivial rfl (by decide) w1.heap.size (w1.heap.size + 1) cap ad l (by omega) _ (by omega) (by simp) hbb bx.cell (fun j hj => ((Below.refl w1.heap.size w1).alloc (Nat.le_refl _) _).cell (p := ad.add j) (World.block_lt_of_cell? _ _ (hcs j hj)) |>.trans (hcs j hj))) belowK_t (belowK_b (by simp)) (Below.refl _ _) (fun _ => rfl)
    (fun pre W' => ((∀ q ∈ pre, f ≤ q.2) ∧ W'.cell? ⟨W.heap.size, 0, none⟩ = some (.int .i64 f) ∧ (W'.cell? ⟨W.heap.size + 1, 0, none⟩ = some (.int .i64 0) ∧ W'.frozen? ⟨W.heap.size + 1, 0, none⟩ = false) ∧ (W'.cell? ⟨W.heap.size + 1 + 1, 0, none⟩ = some .nilIface ∧ W'.frozen? ⟨W.heap.size + 1 + 1, 0, none⟩ = false) ∧ W'.cell? (ad.add (l.length - 1)) = some (.int .i64 zl)) ∧ Below W.heap.size W W')
    (fun c pre W' => (c = .ret ∧ ∃ ini last, pre = ini ++ [last] ∧ (∀ q ∈ ini, f ≤ q.2) ∧ last.2 < f ∧ W'.cell? ⟨W.heap.size + 1, 0, none⟩ = some (.int .i64 last.2) ∧ W'.cell? ⟨W.heap.size + 1 + 1, 0, none⟩ = some .nilIface) ∧ Below W.heap.size W W')
    (OwnFrom.and (Own.from (fun s A B row hs hg hr => ⟨hs.1, cell_kept hs.2.1 hg hr, ⟨cell_kept hs.2.2.1.1 hg hr, (frozen_kept hs.2.2.1.1 hg hr).trans hs.2.2.1.2⟩, ⟨cell_kept hs.2.2.2.1.1 hg hr, (frozen_kept hs.2.2.2.1.1 hg hr).trans hs.2.2.2.1.2⟩, cell_kept hs.2.2.2.2 hg hr⟩) _) (ownFrom_below (Nat.le_refl _) (by simp; omega)))
    (fun c => OwnFrom.and (Own.from (fun s A B row hs hg hr => by obtain ⟨hc, ini, last, e1, e2, e3, e4, e5⟩ := hs; exact ⟨hc, ini, last, e1, e2, e3, cell_kept e4 hg hr, cell_kept e5 hg hr⟩) _) (ownFrom_below (Nat.le_refl _) (by simp; omega)))
    ⟨⟨by simp, g5, ⟨g6, f6⟩, ⟨g7, f7⟩, hlast⟩, HB2⟩
    (fun x => { tmps := #[.string s, .string p, .int .i64 f, undef, undef, .pointer (some ⟨W.heap.size, 0, none⟩), .pointer (some ⟨W.heap.size + 1, 0, none⟩), .pointer (some ⟨W.heap.size + 1 + 1, 0, none⟩), .slice (some ad) l.length cap, .nilIface, undef, .int .i64 x.2, .tuple #[.slice (some ad) l.length cap, .nilIface], .string s, .string p, .tuple #[.slice (some ad) l.length cap, .nilIface], .slice (some ad) l.length cap, .nilIface, .nilIface, .bool false, undef, .slice (some ad) l.length cap, .int .i64 l.length, .bool false, undef, .slice (some ad) l.length cap, .func (.func 111) #[] #[.pointer (some ⟨w1.heap.size, 0, none⟩)], .int .i64 (x.1 : Int), .int .i64 x.2, undef, undef, undef, undef, undef, undef, undef, undef, undef, undef], defers := [] }) ?assign ?body ?done ?stop
  case assign =>
    intro l x W K hK
    gi_wp2
    exact hK
  case body =>
    rintro lb pre x W' ⟨⟨hp, c5, ⟨c6, k6⟩, ⟨c7, k7⟩, cl⟩, hBW⟩ _
    gi_wp2
    · have hx : x.2 < f := by assumption
      exact ⟨((KeepsOthers.setCell _ _ _).trans (KeepsOthers.setCell _ _ _)).from _, ⟨rfl, pre, x, rfl, hp, hx, by
        rw [World.cell?_setCell_other _ _ _ _ (by simp)]
        exact World.cell?_setCell_same _ _ _ c6, World.cell?_setCell_same _ _ _ (by rw [World.cell?_setCell_other _ _ _ _ (by simp)]; exact c7)⟩, (hBW.setCell (p := ⟨W.heap.size + 1, 0, none⟩) (Nat.le_add_right _ _) _).setCell (p := ⟨W.heap.size + 1 + 1, 0, none⟩) (by show W.heap.size ≤ W.heap.size + 1 + 1; omega) _⟩
    · have hx : f ≤ x.2 := by omega
      exact ⟨KeepsFrom.refl _ _, Below.refl _ _, ⟨fun q hq => (List.mem_append.1 hq).elim (hp q) (fun e => by simp at e; subst e; exact hx), c5, ⟨c6, k6⟩, ⟨c7, k7⟩, cl⟩, hBW⟩
  case done =>
    rintro D ys W' hD rfl ⟨⟨hne, c5, ⟨c6, k6⟩, ⟨c7, k7⟩, cl⟩, hBW⟩ hK
    have p1 : (0 : Int) ≤ (l.length : Int) - 1 := by omega
    have p2 : (l.length : Int) - 1 < (l.length : Int) := by omega
    have p3 : ((l.length : Int) - 1).toNat = l.length - 1 := by omega
    gi_wp2
    have hK' := ((KeepsOthers.setCell W' ⟨W.heap.size + 1, 0, none⟩ (.int .i64 zl)).trans (KeepsOthers.setCell _ ⟨W.heap.size + 1 + 1, 0, none⟩ .nilIface)).same D _ hK rfl
    have q6 : ((W'.setCell ⟨W.heap.size + 1, 0, none⟩ (.int .i64 zl)).setCell ⟨W.heap.size + 1 + 1, 0, none⟩ .nilIface).cell? ⟨W.heap.size + 1, 0, none⟩ = some (.int .i64 zl) := by
      rw [World.cell?_setCell_other _ _ _ _ (by simp)]
      exact World.cell?_setCell_same _ _ _ c6
    have q7 : ((W'.setCell ⟨W.heap.size + 1, 0, none⟩ (.int .i64 zl)).setCell ⟨W.heap.size + 1 + 1, 0, none⟩ .nilIface).cell? ⟨W.heap.size + 1 + 1, 0, none⟩ = some .nilIface :=
      World.cell?_setCell_same _ _ _ (by rw [World.cell?_setCell_other _ _ _ _ (by simp)]; exact c7)
    have hBW2 := (hBW.setCell (p := ⟨W.heap.size + 1, 0, none⟩) (Nat.le_add_right _ _) (.int .i64 zl)).setCell (p := ⟨W.heap.size + 1 + 1, 0, none⟩) (show W.heap.size ≤ W.heap.size + 1 + 1 by omega) .nilIface
    generalize (W'.setCell ⟨W.heap.size + 1, 0, none⟩ (.int .i64 zl)).setCell ⟨W.heap.size + 1 + 1, 0, none⟩ .nilIface = W'' at *
    refine ⟨by simp, .inl ⟨_, _, rfl, run_takeDeferred hK', ?_⟩⟩
    have r6 := cell_kept q6 (grownBy_putObj' _ D (.deferred none)) (fun r e => by cases e; exact ⟨_, hK', rfl⟩)
    have r7 := cell_kept q7 (grownBy_putObj' _ D (.deferred none)) (fun r e => by cases e; exact ⟨_, hK', rfl⟩)
    refine ⟨_, prev_results _ _ ⟨W.heap.size + 1, 0, none⟩ ⟨W.heap.size + 1 + 1, 0, none⟩ zl .nilIface rfl rfl r6 r7, ?_⟩
    have hp := pv_none (l := l) (f := f) (fun j hj => by rw [← opt_get l j hj]; exact hne _ (bk_mem l l.length 0 j hj (Nat.zero_le _)))
    rw [hend] at hp
    rw [hp]
    exact ⟨rfl, hBW2.trans (belowK_b (w := W) (Nat.le_refl _) W'' D _ _ (by simp at hD; omega) hK' rfl rfl)⟩
  case stop =>
    rintro D c pre W' hD ⟨r, hr, rfl⟩ ⟨⟨rfl, ini, last, e1, e2, e3, c6, c7⟩, hBW⟩ hK
    gi_wp2
    refine ⟨by simp, .inl ⟨_, _, rfl, run_takeDeferred hK, ?_⟩⟩
    have r6 := cell_kept c6 (grownBy_putObj' _ D (.deferred none)) (fun r e => by cases e; exact ⟨_, hK, rfl⟩)
    have r7 := cell_kept c7 (grownBy_putObj' _ D (.deferred none)) (fun r e => by cases e; exact ⟨_, hK, rfl⟩)
    refine ⟨_, prev_results _ _ ⟨W.heap.size + 1, 0, none⟩ ⟨W.heap.size + 1 + 1, 0, none⟩ last.2 .nilIface rfl rfl r6 r7, ?_⟩
    have hrl : r < l.length := by
      rcases Nat.lt_or_ge r l.length with h | h
      · exact h
      · obtain rfl : r = l.length := by omega
        rw [bk_all] at e1
        simp at e1
    rw [bk_succ l l.length r hrl] at e1
    obtain ⟨rfl, e5⟩ := List.append_inj' e1 rfl
    obtain rfl : (r, l[r]?.getD 0) = last := by simpa using e5
    have hp := pv_hit (l := l) (f := f) hrl (fun j hj hjr => by rw [← opt_get l j hj]; exact e2 _ (bk_mem l l.length (r + 1) j hj hjr)) (by rw [← opt_get l r hrl]; exact e3)
    rw [← opt_get l r hrl] at hp
    rw [hp]
    exact ⟨rfl, hBW.trans (belowK_b (w := W) (Nat.le_refl _) W' D _ _ (by simp at hD; omega) hK rfl rfl)⟩
theorem prev_yes (s p : ByteArray) (f : Int) (hs : s.size ≤ 1000) (hp1 : 1 ≤ p.size) (hp : p.size ≤ 1000) (W : World) :
    Calls Tryd.prog 58 #[.string s, .string p, .int .i64 f] W (NQ (pw (al s p s.size) f) (nc (al s p s.size)) W) := by
  unfold pw nc
  by_cases h : al s p s.size = []
  · rw [if_pos h, if_pos h]
    exact prev_nil s p f hs hp1 hp W h
  · rw [if_neg h, if_neg h]
    exact prev_some s p f hs hp1 hp W h
end Go.Proofs.YtifnochpmlllgaaDoor.All
