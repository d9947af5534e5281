/-
  PROVED HERE: that the law XxdLoads returns true. Conditions: as each theorem states.
-/
import Derived.Test.YtnbpninnanjemaaDoorXlD
import Derived.Test.YtnbpninnanjemaaDoorXlV
namespace Go.Proofs.YtnbpninnanjemaaDoor.Xl
open Go.RowKit Go.Proofs.YtnbpninnanjemaaDoor.Chr
set_option maxRecDepth 100000 in
set_option maxHeartbeats 800000 in
theorem xxdLoads_walk (s : ByteArray) (W : World) (hg : Err.Home W) (hx : ∃ m, W.cell? ⟨0, 0, none⟩ = some (.int .i64 m)) :
    Calls Tryd.prog 4 #[.string s] W fun e w' => e = .returned (.bool true) ∧ Below W.heap.size W w' := by
  by_cases hs : s.size ≤ 1500
  · obtain ⟨m, hm⟩ := hx
    have HG := Lib.hid hg
    have C1 := Lib.hid (docLoad_any s hs W m hm)
    have C2 := Lib.hid (fun W => load_any s hs W)
    have hsI : (s.size : Int) ≤ 1500 := by omega
    clear hg hm
    generalize ldl (LS s) 0 [] = Z at *
    go_enter Tryd.func4, Tryd.ntmps4
    go_wp2_with fail
    refine C1.out.mono ?_; rintro e w1 ⟨rfl, h1⟩
    have H1 := Lib.hid h1
    clear h1
    go_wp2_with fail
    refine (C2.out _).mono ?_; rintro e w2 ⟨v, rfl, hE, h2⟩
    have c20 : w2.cell? ⟨w1.heap.size, 0, none⟩ = some (.int .i64 Z.1) := keepCell h2 (by simp)
    have c21 : w2.cell? ⟨w1.heap.size, 1, none⟩ = some (.int .i64 Z.2.1) := keepCell h2 (by simp)
    have H2 := Lib.hid ((H1.out.alloc H1.out.size _).trans (h2.mono (le_alloc H1.out.size _)))
    have HE := Lib.hid hE
    clear h2 hE
    go_wp2_with fail
    refine (placed_any v Z.1 Z.2.1 Z.1 Z.2.1 _ (HG.out.below H2.out) HE.out).mono ?_; rintro e w3 ⟨rfl, h3⟩
    have H3 := Lib.hid (H2.out.trans (h3.mono H2.out.size))
    clear h3 c20 c21
    go_wp2_with fail
    go_ret
    exact ⟨ret_bool (by simp), H3.out⟩
  · have hs2 : ¬ (s.size : Int) ≤ 1500 := by omega
    go_enter Tryd.func4, Tryd.ntmps4
    go_wp2_with fail
    go_ret
    exact ⟨rfl, Below.refl _ _⟩
end Go.Proofs.YtnbpninnanjemaaDoor.Xl
