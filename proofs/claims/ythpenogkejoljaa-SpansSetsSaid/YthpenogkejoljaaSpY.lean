/-
  PROVED HERE: slices.Concat of two rows of spans. Conditions: as each theorem states.
-/
import Derived.Test.YthpenogkejoljaaSpX
import Derived.Laws.OwnMore
namespace Go.Proofs.Ythpenogkejoljaa.Sp
open Go.RowKit
theorem append_of_nil {P : Program} (w : World) (base : Nat) (t ty e : TypeId) (i : TypeInfo) (size : Nat) (ht : P.underlying t = some (.slice e)) (hi : P.info? e = some i)
    (v : Value) (n : Nat) (xs : List Value) (hown : w.ownsRow base e size v n xs) (c : Nat) : (Builtin.append_ #[t, t] ty #[v, .slice none 0 c]).run P w = .ok v w := by
  rcases hown.2 with ⟨rfl, _⟩ | ⟨g, cap, cur, rfl, _, _, hnc, _⟩
  · simp [Builtin.append_, run_underlying ht, sizeOf, typeInfo, hi, Builtin.lenOf, Builtin.firstCells]
  · simp [Builtin.append_, run_underlying ht, sizeOf, typeInfo, hi, Builtin.lenOf, Builtin.firstCells, hnc, storeCells]
/-- append of a row that lies anywhere, or nowhere. -/
theorem ownS_appendS {w : World} {ops : Array Oper} {rest : List Oper} {o : Oper} {a : Act} {Q : Exit → Act → World → Prop} (hgd : o.guard = none) (s x : Operand)
    (ho : o.op = .call { callee := .builtin .append, args := #[s, x], argTypes := #[22, 22] })
    (B : Nat) (v : Value) (l m : List Spn) (hs : a.eval s = v) (hown : OwnS w B v l)
    (A : Option Addr) (c : Nat) (hx : a.eval x = .slice A m.length c) (hnew : Sps w (.slice A m.length c) m)
    (hlen : l.length + m.length ≤ 100000000) (hbase : B ≤ w.heap.size)
    (h : ∀ v' w', OwnS w' B v' (l ++ m) → w.grownBy w' v.ownBlock → Below B w w' → wpList Try.prog ops Q rest (a.put o.dst v') w') : wpList Try.prog ops Q (o :: rest) a w := by
  rcases A with _ | ad
  · have hm : m = [] := by
      obtain ⟨a', c', e, hc⟩ := hnew
      rcases m with _ | ⟨y, r⟩
      · rfl
      · obtain ⟨ad, e2, _⟩ := hc 0 (by simp)
        simp only [Value.slice.injEq] at e
        rw [← e.1] at e2
        cases e2
    subst hm
    obtain ⟨i, hi, hz0, hz1, hz2⟩ := info_parts infoSpn
    have hrun := append_of_nil w B 22 o.type 26 i 2 Try.underlying22 hi v l.length (spCells l) hown c
    refine wpList_plain hgd fun K hK => ?_
    unfold Oper.wp
    simp only [List.length_nil] at hx
    simp [execOp, ho, resolve, invoke, builtin, hs, hx, hrun, Result.andThen]
    refine hK _ _ ?_
    exact h v w (by rw [List.append_nil]; exact hown) (World.grownBy.refl w _) (Below.refl _ _)
  · exact ownS_appendN hgd s x ho B v l m hs hown ad c hx hnew hlen hbase h
set_option maxRecDepth 100000 in
set_option maxHeartbeats 2000000 in
theorem grow_nil (w : World) : Calls Try.prog 34 #[.slice none 0 0, .int .i64 0] w fun e w' => e = .returned (.slice none 0 0) ∧ w' = w := by
  go_enter Try.func34, Try.ntmps34
  go_wp2
  go_ret
  exact ⟨rfl, rfl⟩
theorem grow_all (w : World) (n : Nat) (hn : n ≤ 1000) : Calls Try.prog 34 #[.slice none 0 0, .int .i64 (n : Int)] w fun e w' => ∃ v, e = .returned v ∧ OwnS w' w.heap.size v [] ∧ Below w.heap.size w w' := by
  by_cases h0 : 0 < n
  · exact grow_any w n h0 hn
  · obtain rfl : n = 0 := by omega
    exact (grow_nil w).mono fun e w' ⟨h1, h2⟩ => ⟨_, h1, ownS_nil _ _, by rw [h2]; exact Below.refl _ _⟩
def prS (la lb : List Spn) : Nat → List Spn
  | 0 => []
  | 1 => la
  | _ => la ++ lb
theorem prS_len (la lb : List Spn) (k : Nat) : (prS la lb k).length ≤ la.length + lb.length := by
  unfold prS
  split <;> simp
set_option maxRecDepth 100000 in
set_option maxHeartbeats 2000000 in
theorem concat_any (w : World) (g : Nat) (va vb : Value) (la lb : List Spn) (ha : Sps w va la) (hb : Sps w vb lb) (hc0 : w.cell? ⟨g, 0, none⟩ = some va) (hc1 : w.cell? ⟨g, 1, none⟩ = some vb) (hna : la.length ≤ 400) (hnb : lb.length ≤ 400) :
    Calls Try.prog 30 #[.slice (some ⟨g, 0, none⟩) 2 2] w fun e w' => ∃ v, e = .returned v ∧ OwnS w' w.heap.size v (la ++ lb) ∧ Below w.heap.size w w' := by
  have EX : Hid (∀ k, k < 2 → ∃ A C m, w.cell? ⟨g, k, none⟩ = some (.slice A (List.length m) C) ∧ Sps w (.slice A (List.length m) C) m ∧ prS la lb (k + 1) = prS la lb k ++ m) := Lib.hid (by
    intro k hk
    obtain ⟨A1, C1, rfl, h1⟩ := ha
    obtain ⟨A2, C2, rfl, h2⟩ := hb
    rcases (show k = 0 ∨ k = 1 by omega) with rfl | rfl
    · exact ⟨A1, C1, la, hc0, ⟨A1, C1, rfl, h1⟩, by simp [prS]⟩
    · exact ⟨A2, C2, lb, hc1, ⟨A2, C2, rfl, h2⟩, by simp [prS]⟩)
  have LE := Lib.hid (prS_len la lb)
  have E0 := Lib.hid (show prS la lb 2 = la ++ lb from rfl)
  clear ha hb hc0 hc1
  go_enter Try.func30, Try.ntmps30
  go_wp2_with fail
  go_loop [3, 11] (fun n i => ∃ (k m : Nat), k ≤ 2 ∧ m ≤ 800 ∧ i = .int .i64 (k : Int) ∧ n = .int .i64 (m : Int) ∧ Hid (m = (prS la lb k).length)) (fun _ i => 2 - (intOf i).toNat)
  case atStart => exact ⟨0, 0, by omega, by omega, rfl, rfl, Lib.hid rfl⟩
  case round =>
    obtain ⟨k, m, hk, hm, rfl, rfl, hM⟩ := hrel
    by_cases hlt : k < 2
    · obtain ⟨A, C, y, hcell, hS, he⟩ := EX.out k hlt
      have hy := LE.out (k + 1)
      have hm2 := hM.out
      rw [he, List.length_append] at hy
      have hM2 := Lib.hid (show m + y.length = (prS la lb (k + 1)).length by rw [he, List.length_append, hm2])
      have hz : m + y.length ≤ 800 := by omega
      clear hS he hM hm2 hy
      have i1 : (0 : Int) ≤ (k : Int) := by omega
      have i2 : (k : Int) < 2 := by omega
      go_wp2_with fail
      go_round
      case rel => exact ⟨k + 1, m + y.length, by omega, hz, by go_num, by go_num, hM2⟩
      case measure => simp [intOf]; omega
    · obtain rfl : k = 2 := by omega
      have G := Lib.hid (grow_all w m (by omega))
      clear hM
      go_wp2_with fail
      refine G.out.mono ?_; rintro e w1 ⟨v1, rfl, h1, h2⟩
      have HO := Lib.hid (And.intro h1 h2)
      clear h1 h2 G
      go_wp2_with fail
      go_loopw [6, 27] (fun u i wr => ∃ (k : Nat), k ≤ 2 ∧ i = .int .i64 (k : Int) ∧ Hid (OwnS wr w.heap.size u (prS la lb k) ∧ Below w.heap.size w wr)) (fun _ i _ => 2 - (intOf i).toNat)
      case atStart => exact ⟨0, by omega, rfl, HO⟩
      case round =>
        obtain ⟨k, hk, rfl, hO⟩ := hrel
        by_cases hlt : k < 2
        · obtain ⟨A, C, y, hcell, hS, he⟩ := EX.out k hlt
          have hy := LE.out (k + 1)
          rw [he, List.length_append] at hy
          have hl2 : (prS la lb k).length + y.length ≤ 100000000 := by omega
          have hcell2 := keepCell hO.out.2 hcell
          have hS2 := Lib.hid (hS.below hO.out.2)
          have HE := Lib.hid he
          clear hS he hcell hy
          have i1 : (0 : Int) ≤ (k : Int) := by omega
          have i2 : (k : Int) < 2 := by omega
          go_wp2_with (at_builtin; refine ownS_appendS rfl _ _ rfl w.heap.size _ _ y rfl hO.out.1 A C rfl hS2.out hl2 hO.out.2.size ?_; intro v' w' ho' _ hb'; rw [← HE.out] at ho'; have hO2 := Lib.hid (And.intro ho' (hO.out.2.trans hb')); clear ho' hb' hO hS2 hcell2 HE)
          go_roundw
          case rel => exact ⟨k + 1, by omega, by go_num, hO2⟩
          case measure => simp [intOf]; omega
        · obtain rfl : k = 2 := by omega
          have HF := Lib.hid (And.intro (E0.out ▸ hO.out.1) hO.out.2)
          clear hO
          go_wp2_with fail
          go_ret
          exact ⟨_, rfl, HF.out.1, HF.out.2⟩
end Go.Proofs.Ythpenogkejoljaa.Sp
