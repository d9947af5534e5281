/-
  PROVED HERE: the contract of the document's Span. Conditions: as each theorem states.
-/
import Derived.Test.YtgkmjkjcdjkffaaDoorMoI
import Derived.Test.YtgkmjkjcdjkffaaDoorMoF
namespace Go.Proofs.YtgkmjkjcdjkffaaDoor.Mo
open Go.RowKit
def SdP (F T C : Int) (W : World) (e : Ending) (w' : World) : Prop := e = .returned (.tuple #[.int .i64 F, .int .i64 T, .int .i64 C]) ∧ Below W.heap.size W w'
theorem docOne_any (b : Bool) (W : World) : Calls Tryd.prog 24 #[.bool b] W fun e w' => e = .returned (.int .i64 (if b = true then 1 else 0)) ∧ w' = W := by
  cases b
  all_goals
    go_enter Tryd.func24, Tryd.ntmps24
    go_wp2_with fail
    go_ret
    exact ⟨rfl, rfl⟩
set_option maxRecDepth 100000 in
set_option maxHeartbeats 4000000 in
theorem dspan_row (reg op : Int) (s : ByteArray) (hs : s.size ≤ 1000) (A : Nat) (hA : A ≤ s.size) (n : Nat) (hn : n ≤ 9999) (arg : ByteArray) (a1 : Option Addr) (n1 c1 : Nat) (mo : Option Nat) (a2 : Option Addr) (n2 c2 : Nat) (fr tt : Int) (hfr : fr = (A : Int) - (A : Int) % 16) (hto : tt = fr + 16 * (max n 1 : Nat)) (W : World) :
    Calls Tryd.prog 9 #[.agg #[.string s, .int .i64 (A : Int), .slice a1 n1 c1, .map mo, .slice a2 n2 c2], .agg #[.int .u8 reg, .int .i64 n, .int .u8 op, .int .u8 op, .string arg]] W (SdP (spF s.size fr tt) (spT s.size fr tt) (spC s.size fr tt) W) := by
  have d16 : ((A : Nat) : Int).tdiv 16 = (A : Int) / 16 := Int.tdiv_eq_ediv_of_nonneg (by omega)
  obtain ⟨k, hk⟩ : ∃ k, max n 1 = k := ⟨_, rfl⟩
  have hmx : max (n : Int) 1 = (k : Int) := by omega
  have hk1 : 1 ≤ k ∧ k ≤ 9999 := by omega
  obtain ⟨hk1, hk2⟩ := hk1
  rw [hk] at hto
  obtain ⟨T, hT⟩ : ∃ T, min tt (s.size : Int) = T := ⟨_, rfl⟩
  unfold spF spT spC
  rw [hT]
  have hf0 : 0 ≤ fr ∧ fr ≤ A := by omega
  obtain ⟨hf0, hf1⟩ := hf0
  have ht0 : 0 ≤ tt ∧ tt ≤ 200000 := by omega
  obtain ⟨ht0, ht1⟩ := ht0
  have hfr' : (A : Int) / 16 * 16 = fr := by omega
  have hto' : fr + 16 * (k : Int) = tt := hto.symm
  have w1 : IntKind.i64.wrap (16 * (k : Int)) = 16 * (k : Int) := by rw [IntKind.wrap_i64]; omega
  have w2 : IntKind.i64.wrap tt = tt := by rw [IntKind.wrap_i64]; omega
  have w3 : IntKind.i64.wrap fr = fr := by rw [IntKind.wrap_i64]; omega
  have w4 : IntKind.i64.wrap ((A : Int) / 16) = (A : Int) / 16 := by rw [IntKind.wrap_i64]; omega
  have B2 : Hid (Below W.heap.size W ((W.alloc (.cells #[.string s, .int .i64 (A : Int), .slice a1 n1 c1, .map mo, .slice a2 n2 c2] 30)).alloc (.cells #[.int .u8 reg, .int .i64 n, .int .u8 op, .int .u8 op, .string arg] 26))) := Lib.hid (((Below.refl _ _).alloc (Nat.le_refl _) _).alloc (by simp) _)
  clear hk hfr hto
  by_cases c : T ≤ fr
  · rw [if_pos c, if_pos c, if_pos c]
    go_enter Tryd.func9, Tryd.ntmps9
    go_wp2_with fail
    go_quiet (fail)
    go_wp2_with fail
    go_ret3
    exact ⟨rfl, below_drewN B2.out _⟩
  · rw [if_neg c, if_neg c, if_neg c]
    have c' : fr < T := by omega
    clear c
    go_enter Tryd.func9, Tryd.ntmps9
    go_wp2_with fail
    go_quiet (fail)
    go_wp2_with fail
    go_ret3
    exact ⟨rfl, below_drewN B2.out _⟩
set_option maxRecDepth 100000 in
set_option maxHeartbeats 4000000 in
theorem dspan_go (reg op mv : Int) (hne : mv ≠ op) (s : ByteArray) (hs : s.size ≤ 1000) (A : Nat) (hA : A ≤ s.size) (n : Nat) (hn : n ≤ 9999) (arg : ByteArray) (a1 : Option Addr) (n1 c1 : Nat) (mo : Option Nat) (a2 : Option Addr) (n2 c2 : Nat) (N : Int) (b : Bool) (c : Int) (hN : c = 0 → 0 ≤ N ∧ N ≤ s.size) (W : World)
    (C : ∀ W', Below W.heap.size W W' → Calls Tryd.prog 6 #[.agg #[.string s, .int .i64 (A : Int), .slice a1 n1 c1, .map mo, .slice a2 n2 c2], .int .u8 mv, .int .i64 n, .string arg] W' (GD N b c W')) :
    Calls Tryd.prog 9 #[.agg #[.string s, .int .i64 (A : Int), .slice a1 n1 c1, .map mo, .slice a2 n2 c2], .agg #[.int .u8 reg, .int .i64 n, .int .u8 op, .int .u8 mv, .string arg]] W (SdP (if c = 0 then spF s.size (min (A : Int) N) (max (A : Int) N + if b = true then 1 else 0) else 0) (if c = 0 then spT s.size (min (A : Int) N) (max (A : Int) N + if b = true then 1 else 0) else 0) (if c = 0 then spC s.size (min (A : Int) N) (max (A : Int) N + if b = true then 1 else 0) else c) W) := by
  have d16 : ((A : Nat) : Int).tdiv 16 = (A : Int) / 16 := Int.tdiv_eq_ediv_of_nonneg (by omega)
  obtain ⟨k, hk⟩ : ∃ k, max n 1 = k := ⟨_, rfl⟩
  have hkx : max (n : Int) 1 = (k : Int) := by omega
  have hk1 : 1 ≤ k ∧ k ≤ 9999 := by omega
  obtain ⟨hk1, hk2⟩ := hk1
  obtain ⟨f0, hf0⟩ : ∃ f0, (A : Int) / 16 * 16 = f0 := ⟨_, rfl⟩
  obtain ⟨t0, ht0⟩ : ∃ t0, f0 + 16 * (k : Int) = t0 := ⟨_, rfl⟩
  have w1 : IntKind.i64.wrap (16 * (k : Int)) = 16 * (k : Int) := by rw [IntKind.wrap_i64]; omega
  have w2 : IntKind.i64.wrap t0 = t0 := by rw [IntKind.wrap_i64]; omega
  have w3 : IntKind.i64.wrap f0 = f0 := by rw [IntKind.wrap_i64]; omega
  have w4 : IntKind.i64.wrap ((A : Int) / 16) = (A : Int) / 16 := by rw [IntKind.wrap_i64]; omega
  have hm : (mv == op) = false := by rw [beq_eq_false_iff_ne]; exact hne
  have hm2 : (mv != op) = true := by rw [bne_iff_ne]; exact hne
  clear hk
  obtain ⟨fr, hfr⟩ : ∃ fr, min N (A : Int) = fr := ⟨_, rfl⟩
  obtain ⟨mx, hmx⟩ : ∃ mx, max N (A : Int) = mx := ⟨_, rfl⟩
  rw [show min (A : Int) N = fr by omega, show max (A : Int) N = mx by omega]
  obtain ⟨F, hF⟩ : ∃ F, (if c = 0 then spF s.size fr (mx + if b = true then 1 else 0) else 0) = F := ⟨_, rfl⟩
  obtain ⟨T, hT⟩ : ∃ T, (if c = 0 then spT s.size fr (mx + if b = true then 1 else 0) else 0) = T := ⟨_, rfl⟩
  obtain ⟨E, hE⟩ : ∃ E, (if c = 0 then spC s.size fr (mx + if b = true then 1 else 0) else c) = E := ⟨_, rfl⟩
  rw [hF, hT, hE]
  have HE := Lib.hid (show _ ∧ _ ∧ _ from ⟨hF, hT, hE⟩)
  clear hF hT hE
  have ON := Lib.hid (fun W => docOne_any b W)
  obtain ⟨o, ho⟩ : ∃ o : Int, (if b = true then (1 : Int) else 0) = o := ⟨_, rfl⟩
  rw [ho] at ON HE
  have ho0 : 0 ≤ o ∧ o ≤ 1 := by rw [← ho]; split <;> decide
  obtain ⟨ho0, ho1⟩ := ho0
  clear ho
  go_enter Tryd.func9, Tryd.ntmps9
  go_wp2_with fail
  obtain ⟨w1', hw1⟩ : ∃ w1, w1 = (W.alloc (.cells #[.string s, .int .i64 (A : Int), .slice a1 n1 c1, .map mo, .slice a2 n2 c2] 30)).alloc (.cells #[.int .u8 reg, .int .i64 n, .int .u8 op, .int .u8 mv, .string arg] 26) := ⟨_, rfl⟩
  rw [← hw1]
  have B1 : Hid (Below W.heap.size W w1') := Lib.hid (by rw [hw1]; exact ((Below.refl _ _).alloc (Nat.le_refl _) _).alloc (by simp) _)
  have x0 : w1'.cell? ⟨W.heap.size, 0, none⟩ = some (.string s) := by rw [hw1]; simp [go_sem]
  have x1 : w1'.cell? ⟨W.heap.size, 1, none⟩ = some (.int .i64 (A : Int)) := by rw [hw1]; simp [go_sem]
  have x2 : w1'.cell? ⟨W.heap.size, 2, none⟩ = some (.slice a1 n1 c1) := by rw [hw1]; simp [go_sem]
  have x3 : w1'.cell? ⟨W.heap.size, 3, none⟩ = some (.map mo) := by rw [hw1]; simp [go_sem]
  have x4 : w1'.cell? ⟨W.heap.size, 4, none⟩ = some (.slice a2 n2 c2) := by rw [hw1]; simp [go_sem]
  have z1 : w1'.cell? ⟨W.heap.size + 1, 1, none⟩ = some (.int .i64 (n : Int)) := by rw [hw1]; simp [go_sem]
  have z2 : w1'.cell? ⟨W.heap.size + 1, 2, none⟩ = some (.int .u8 op) := by rw [hw1]; simp [go_sem]
  have z3 : w1'.cell? ⟨W.heap.size + 1, 3, none⟩ = some (.int .u8 mv) := by rw [hw1]; simp [go_sem]
  have z4 : w1'.cell? ⟨W.heap.size + 1, 4, none⟩ = some (.string arg) := by rw [hw1]; simp [go_sem]
  clear hw1
  go_quiet (fail)
  go_wp2_with fail
  refine (C _ (below_drewN B1.out nq)).mono ?_; rintro e w2' ⟨rfl, h2⟩
  have BW := Lib.hid ((below_drewN B1.out nq).trans (h2.mono (below_drewN B1.out nq).size))
  have y1 : w2'.cell? ⟨W.heap.size, 1, none⟩ = some (.int .i64 (A : Int)) := keepCell h2 (show (w1'.drewN nq).cell? ⟨W.heap.size, 1, none⟩ = _ from x1)
  have y0 : w2'.cell? ⟨W.heap.size, 0, none⟩ = some (.string s) := keepCell h2 (show (w1'.drewN nq).cell? ⟨W.heap.size, 0, none⟩ = _ from x0)
  clear h2 x0 x1 x2 x3 x4 z1 z2 z3 z4 C
  by_cases hc : c = 0
  · subst hc
    obtain ⟨hF, hT, hE⟩ := HE.out
    rw [if_pos rfl] at hF hT hE
    obtain ⟨hN0, hN1⟩ := hN rfl
    clear HE hN
    have hfb : 0 ≤ fr ∧ fr ≤ s.size := by omega
    have hmb : 0 ≤ mx ∧ mx ≤ s.size := by omega
    obtain ⟨hf0', hf1⟩ := hfb
    obtain ⟨hm0, hm1⟩ := hmb
    obtain ⟨sm, hsm⟩ : ∃ sm, mx + o = sm := ⟨_, rfl⟩
    have w5 : IntKind.i64.wrap sm = sm := by rw [IntKind.wrap_i64]; omega
    rw [hsm] at hF hT hE
    obtain ⟨TT, hTT⟩ : ∃ TT, min sm (s.size : Int) = TT := ⟨_, rfl⟩
    unfold spF at hF
    unfold spT at hT
    unfold spC at hE
    rw [hTT] at hF hT hE
    by_cases d : TT ≤ fr
    · rw [if_pos d] at hF hT hE
      subst hF hT hE
      go_wp2_with fail
      go_quiet ((go_at_call 24; exact Calls.quiet_of_same (ON.out _)))
      go_wp2_with fail
      go_ret3
      exact ⟨rfl, below_drewN BW.out _⟩
    · rw [if_neg d] at hF hT hE
      subst hF hT hE
      have d' : fr < TT := by omega
      clear d
      go_wp2_with fail
      go_quiet ((go_at_call 24; exact Calls.quiet_of_same (ON.out _)))
      go_wp2_with fail
      go_ret3
      exact ⟨rfl, below_drewN BW.out _⟩
  · obtain ⟨hF, hT, hE⟩ := HE.out
    rw [if_neg hc] at hF hT hE
    subst hF hT hE
    have hcb : (c != 0) = true := by rw [bne_iff_ne]; exact hc
    have hce : (c == 0) = false := by rw [beq_eq_false_iff_ne]; exact hc
    clear HE hN hc
    go_wp2_with fail
    go_ret3
    exact ⟨rfl, BW.out⟩
end Go.Proofs.YtgkmjkjcdjkffaaDoor.Mo
