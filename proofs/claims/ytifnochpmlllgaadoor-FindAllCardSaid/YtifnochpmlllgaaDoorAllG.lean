/-
  PROVED HERE: the contract of find.Prev. Conditions: as each theorem states.
-/
import Derived.RangeFuncNested
import Derived.RangeFuncWrites
import Derived.RangeFuncBox
import Derived.RangeFuncBound
import Derived.RangeFuncCalls
import Derived.RangeFuncLeaves
import Derived.Shelf.Abstract
import Derived.Shelf.RegionOpen
import Derived.WalkKit
import Derived.OwnWalkIn
import Derived.TacticsInMore
import Derived.LoopNIn
import Derived.LoopIn
import Derived.Test.YtifnochpmlllgaaDoorAllC
namespace Go.Proofs.YtifnochpmlllgaaDoor.All
open Go.RowKit Go.Shelf
section
theorem prev_results (tmps : Array Value) (w : World) (A B : Addr) (z : Int) (x : Value) (h6 : tmps.getD 6 undef = .pointer (some A)) (h7 : tmps.getD 7 undef = .pointer (some B)) (c6 : w.cell? A = some (.int .i64 z)) (c7 : w.cell? B = some x) :
    (results Tryd.f58 tmps).run Tryd.prog w = .ok (.tuple #[.int .i64 z, x]) w := by
  have h6' : tmps[6]?.getD undef = .pointer (some A) := by simpa using h6
  have h7' : tmps[7]?.getD undef = .pointer (some B) := by simpa using h7
  simp only [results, Tryd.f58]
  simp [go_sem, h6', h7', c6, c7]
/-- The cells of the call, and the world behind them. -/
def base (W : World) (f : Int) : World := ((W.alloc (.cells #[.int .i64 f] 3)).alloc (.cells #[.int .i64 0] 3)).alloc (.cells #[.nilIface] 27)
theorem base_cells (W : World) (f : Int) : Boxed (base W f) W.heap.size 3 (.int .i64 f) ∧ Boxed (base W f) (W.heap.size + 1) 3 (.int .i64 0) ∧ Boxed (base W f) (W.heap.size + 2) 27 .nilIface ∧ (base W f).heap.size = W.heap.size + 3 ∧ Below W.heap.size W (base W f) := by
  have b5 := Boxed.new W 3 (.int .i64 f)
  have b6 := Boxed.new (W.alloc (.cells #[.int .i64 f] 3)) 3 (.int .i64 0)
  have b7 := Boxed.new ((W.alloc (.cells #[.int .i64 f] 3)).alloc (.cells #[.int .i64 0] 3)) 27 .nilIface
  rw [World.size_alloc] at b6
  rw [World.size_alloc, World.size_alloc] at b7
  refine ⟨(b5.alloc _).alloc _, b6.alloc _, b7, ?_, ?_⟩
  · unfold base; rw [World.size_alloc, World.size_alloc, World.size_alloc]
  · unfold base
    exact (((Below.refl _ W).alloc (Nat.le_refl _) _).alloc (by simp) _).alloc (by simp; omega) _
set_option maxRecDepth 100000 in
set_option maxHeartbeats 2000000 in
theorem prev_no (s : ByteArray) (f : Int) (W : World) :
    Calls Tryd.prog 58 #[.string s, .string ⟨#[]⟩, .int .i64 f] W (NQ 0 1 W) := by
  have CB := Lib.hid (all_no s)
  obtain ⟨b5, b6, b7, hz, hB⟩ := base_cells W f
  go_enter Tryd.func58, Tryd.ntmps58
  go_wp2_with fail
  refine (CB.out _).mono ?_; rintro e w1 ⟨v, rfl, hI, h1⟩
  have h1' : Below (base W f).heap.size (base W f) w1 := h1
  have H1 := Lib.hid (hB.trans (h1'.mono (by omega)))
  have g6 := keepCell h1' b6.cell
  have g7 := keepCell h1' b7.cell
  have f6 := keepFree h1' b6.cell b6.frozen
  have f7 := keepFree h1' b7.cell b7.frozen
  clear CB h1 h1' hB hz b5 b6 b7
  rw [show ev 1 = .iface 23 (.int .i64 1) from rfl]
  go_wp2_with fail
  refine bodyPost_ret (prev_results _ _ ⟨W.heap.size + 1, 0, none⟩ ⟨W.heap.size + 2, 0, none⟩ 0 (.iface 23 (.int .i64 1)) rfl rfl ?_ ?_) rfl ?_
  · rw [World.cell?_setCell_other _ _ _ _ (by simp)]
    exact World.cell?_setCell_same _ _ _ g6
  · exact World.cell?_setCell_same _ _ _ (by rw [World.cell?_setCell_other _ _ _ _ (by simp)]; exact g7)
  · exact ⟨rfl, (H1.out.setCell (p := ⟨W.heap.size + 1, 0, none⟩) (Nat.le_add_right _ _) _).setCell (p := ⟨W.heap.size + 2, 0, none⟩) (Nat.le_add_right _ _) _⟩
set_option maxRecDepth 100000 in
set_option maxHeartbeats 2000000 in
theorem prev_nil (s p : ByteArray) (f : Int) (hs : s.size ≤ 1000) (hp1 : 1 ≤ p.size) (hp : p.size ≤ 1000) (W : World) (hl : al s p s.size = []) :
    Calls Tryd.prog 58 #[.string s, .string p, .int .i64 f] W (NQ 0 8 W) := by
  have CB := Lib.hid (all_yes s p hs hp1 hp)
  rw [hl] at CB
  obtain ⟨b5, b6, b7, hz, hB⟩ := base_cells W f
  go_enter Tryd.func58, Tryd.ntmps58
  go_wp2_with fail
  refine (CB.out _).mono ?_; rintro e w1 ⟨v, rfl, ⟨a, cap, rfl, hc⟩, h1⟩
  have h1' : Below (base W f).heap.size (base W f) w1 := h1
  have H1 := Lib.hid (hB.trans (h1'.mono (by omega)))
  have g6 := keepCell h1' b6.cell
  have g7 := keepCell h1' b7.cell
  have f6 := keepFree h1' b6.cell b6.frozen
  have f7 := keepFree h1' b7.cell b7.frozen
  clear CB h1 h1' hB hz b5 b6 b7 hc
  rw [show ev 0 = .nilIface from rfl]
  go_wp2_with fail
  refine bodyPost_ret (prev_results _ _ ⟨W.heap.size + 1, 0, none⟩ ⟨W.heap.size + 2, 0, none⟩ 0 (.iface 23 (.int .i64 8)) rfl rfl ?_ ?_) rfl ?_
  · rw [World.cell?_setCell_other _ _ _ _ (by simp)]
    exact World.cell?_setCell_same _ _ _ g6
  · exact World.cell?_setCell_same _ _ _ (by rw [World.cell?_setCell_other _ _ _ _ (by simp)]; exact g7)
  · exact ⟨rfl, (H1.out.setCell (p := ⟨W.heap.size + 1, 0, none⟩) (Nat.le_add_right _ _) _).setCell (p := ⟨W.heap.size + 2, 0, none⟩) (Nat.le_add_right _ _) _⟩
end
attribute [local go_sem] Oper.semAt_some
def bk (zs : List Int) (n r : Nat) : List (Nat × Int) := (List.range (n - r)).map fun k => (n - 1 - k, zs[n - 1 - k]?.getD 0)
theorem bk_succ (zs : List Int) (n j : Nat) (h : j < n) : bk zs n j = bk zs n (j + 1) ++ [(j, zs[j]?.getD 0)] := by
  unfold bk
  rw [show n - j = (n - (j + 1)) + 1 by omega, List.range_succ, List.map_append]
  congr 1
  simp only [List.map_cons, List.map_nil]
  rw [show n - 1 - (n - (j + 1)) = j by omega]
theorem bk_len (zs : List Int) (n r : Nat) : (bk zs n r).length = n - r := by simp [bk]
theorem bk_all (zs : List Int) (n : Nat) : bk zs n n = [] := by simp [bk]
set_option maxRecDepth 100000 in
set_option maxHeartbeats 2000000 in
theorem back1_in (F : Fence) (n : Nat) (h8 : F.fn 111) (hro : F.round = none) (hn : 1 ≤ n) (l Bs n₀ len cap : Nat) (ad : Addr) (zs : List Int) (hreach : len * 8 ≤ 140737488351232) (hBn : Bs < n₀) (hb : ∀ j, j < len → (ad.add j).block < n₀) (J Jx : List (Nat × Int) → World → Prop)
    (hY : ∀ pre x W, J pre W → pre.length < len → YieldAt F (n - 1) Tryd.prog l #[.int .i64 (x.1 : Int), .int .i64 x.2] W fun e W' =>
      (e = .returned (.bool true) ∧ J (pre ++ [x]) W' ∧ Below n₀ W W') ∨ (e = .returned (.bool false) ∧ Jx (pre ++ [x]) W'))
    (W : World) (hBs : W.cell? ⟨Bs, 0, none⟩ = some (.slice (some ad) len cap)) (hc : ∀ j, j < len → W.cell? (ad.add j) = some (.int .i64 (zs[j]?.getD 0))) (h0 : J [] W) :
    CallsIn F n Tryd.prog 111 #[.func (.yield l) #[] #[], .pointer (some ⟨Bs, 0, none⟩)] W fun e W' => (∃ v, e = .returned v) ∧
      ((∃ ys, ys = bk zs len 0 ∧ J ys W') ∨ (∃ pre, (∃ r, r ≤ len ∧ pre = bk zs len r) ∧ Jx pre W')) := by
  refine callsIn_of_wp Tryd.func111 rfl h8 ?_ hro
  simp only [Tryd.ntmps111, List.size_toArray, List.length_cons, List.length_nil, Nat.reduceAdd, Nat.reduceSub, Array.replicate_succ, Array.replicate_zero, List.push_toArray, List.append_toArray, List.nil_append, List.cons_append]
  gi_wp2
  gi_loopw [3] (fun i wr => ∃ r : Nat, r ≤ len ∧ i = .int .i64 ((r : Int) - 1) ∧ J (bk zs len r) wr ∧ Below n₀ W wr)
    (fun i _ => (intOf i + 1).toNat)
  case atStart => exact ⟨len, Nat.le_refl _, by go_num, by rw [bk_all]; exact h0, Below.refl _ _⟩
  case round =>
    obtain ⟨r, hr, rfl, hJs, hnx⟩ := hrel
    have hbs := (hnx.cell (p := ⟨Bs, 0, none⟩) hBn).trans hBs
    rcases r with _ | j
    · gi_wp2
      go_end0
      exact ⟨⟨_, rfl⟩, .inl ⟨_, rfl, hJs⟩⟩
    · have hcx := (hnx.cell (p := ad.add j) (hb j (by omega))).trans (hc j (by omega))
      have e1 : ((j + 1 : Nat) : Int) - 1 = (j : Int) := by omega
      rw [e1]
      obtain ⟨fn, tmps, assign, body, hy, hR⟩ := hY _ (j, zs[j]?.getD 0) wr hJs (by rw [bk_len]; omega)
      dsimp only at hy
      have i1 : (0 : Int) ≤ (j : Int) := by omega
      have i2 : (j : Int) < (len : Int) := by omega
      gi_wp2
      refine hR.mono ?_
      rintro e W3 (⟨rfl, hJ3, hk3⟩ | ⟨rfl, hJx3⟩)
      · gi_wp2
        go_roundw
        case rel => exact ⟨j, by omega, by go_num, by rw [bk_succ zs len j (by omega)]; exact hJ3, hnx.trans hk3⟩
        case measure => simp [intOf]
      · gi_wp2
        refine bodyPost_ret (results_none rfl _ _ _) rfl ?_
        exact ⟨⟨_, rfl⟩, .inr ⟨_, ⟨j, by omega, (bk_succ zs len j (by omega)).symm⟩, hJx3⟩⟩
set_option maxHeartbeats 1000000 in
theorem back_in (F : Fence) (n : Nat) (h6 : F.fn 100) (hro : F.round = none) (a : Option Addr) (len cap : Nat) (w : World) :
    CallsIn F n Tryd.prog 100 #[.slice a len cap] w fun e w' => e = .returned (.func (.func 111) #[] #[.pointer (some ⟨w.heap.size, 0, none⟩)]) ∧ w' = w.alloc (.cells #[.slice a len cap] 50) := by
  refine callsIn_of_wp Tryd.func100 rfl h6 ?_ hro
  simp only [Tryd.ntmps100, List.size_toArray, List.length_cons, List.length_nil, Nat.reduceAdd, Nat.reduceSub, Array.replicate_succ, Array.replicate_zero, List.push_toArray, List.append_toArray, List.nil_append, List.cons_append]
  gi_wp2
  go_ret
  exact ⟨rfl, rfl⟩
theorem back_stops (F : Fence) (n : Nat) (h8 : F.fn 111) (hro : F.round = none) (hn : 1 ≤ n) (Bs n₀ cap : Nat) (ad : Addr) (zs : List Int) (hreach : zs.length * 8 ≤ 140737488351232) (w : World) (hBn : Bs < n₀) (hn₀ : n₀ ≤ w.heap.size)
    (hb : ∀ j, j < zs.length → (ad.add j).block < n₀)
    (hc : w.cell? ⟨Bs, 0, none⟩ = some (.slice (some ad) zs.length cap)) (hI : ∀ j, j < zs.length → w.cell? (ad.add j) = some (.int .i64 (zs[j]?.getD 0))) :
    SeqStopsK F n Tryd.prog 111 #[.pointer (some ⟨Bs, 0, none⟩)] (fun x : Nat × Int => #[Value.int .i64 (x.1 : Int), Value.int .i64 x.2]) (Below n₀) (fun ys => ys = bk zs zs.length 0)
      (fun pre => ∃ r, r ≤ zs.length ∧ pre = bk zs zs.length r) zs.length w := fun l J Jx W hW _ _ hY h0 => by
  have hc' := (hW.cell (p := ⟨Bs, 0, none⟩) (show Bs < w.heap.size by omega)).trans hc
  exact back1_in F n h8 hro hn l Bs n₀ zs.length cap ad zs hreach hBn hb J Jx hY W hc' (fun j hj => (hW.cell (p := ad.add j) (Nat.lt_of_lt_of_le (hb j hj) hn₀)).trans (hI j hj)) h0
end Go.Proofs.YtifnochpmlllgaaDoor.All
