/-
  PROVED HERE: the contract of text.Narrow. Conditions: as each theorem states.
-/
import Derived.Test.YtifnochpmlllgaaDoorNarA
namespace Go.Proofs.YtifnochpmlllgaaDoor.Nar
open Go.RowKit Go.Proofs.YtifnochpmlllgaaDoor.Chr

theorem and_hi : ∀ q : Fin 64, (q.val * 1024) &&& 64512 = q.val * 1024 := by decide +kernel
theorem and_lo : ∀ r : Fin 1024, r.val &&& 64512 = 0 := by decide +kernel
theorem mask_hi (u : Nat) (hu : u < 65536) : bits .and .i64 (u : Int) 64512 = ((u / 1024 * 1024 : Nat) : Int) := by
  have h := i64_and_nat u 64512 (by omega) (by omega)
  have e : u = (u / 1024 * 1024) ||| (u % 1024) := by
    rw [nat_join 10 (u / 1024 * 1024) (u % 1024) (Nat.mul_mod_left _ _) (Nat.mod_lt _ (by decide))]
    omega
  have e2 : u &&& 64512 = u / 1024 * 1024 := by
    conv => lhs; rw [e]
    rw [Nat.and_or_distrib_right, and_hi ⟨u / 1024, by omega⟩, and_lo ⟨u % 1024, Nat.mod_lt _ (by decide)⟩]
    simp
  rw [← e2]
  exact h
theorem low10 (u : Nat) (hu : u < 65536) : bits .and .i64 (u : Int) 1023 = ((u % 1024 : Nat) : Int) := i64_mask u 10 (by omega) (by decide)
theorem pair_is (n m : Nat) (h1 : 55296 ≤ n) (h2 : n < 56320) (h3 : 56320 ≤ m) (h4 : m ≤ 57343) : 65536 + bits .and .i64 (n : Int) 1023 * 1024 + bits .and .i64 (m : Int) 1023 = 65536 + ((n : Int) - 55296) * 1024 + ((m : Int) - 56320) := by
  rw [low10 n (by omega), low10 m (by omega)]
  omega
theorem in_mask (m : Nat) (hm : m < 65536) : (bits .and .i64 (m : Int) 64512 == 56320) = decide (56320 ≤ m ∧ m ≤ 57343) := by
  rw [mask_hi m hm]
  by_cases h : 56320 ≤ m ∧ m ≤ 57343
  · rw [decide_eq_true h, beq_iff_eq]; omega
  · rw [decide_eq_false h, beq_eq_false_iff_ne]; omega

/-- What lies in the boxes. -/
def Bx (W : World) (s : ByteArray) (o : Nat) (w : World) : Prop := w.cell? ⟨W.heap.size, 0, none⟩ = some (.string s) ∧ w.cell? ⟨W.heap.size + 1, 0, none⟩ = some (.int .i64 o) ∧ Below W.heap.size W w ∧ W.heap.size + 2 ≤ w.heap.size
theorem Bx.below {W w w' : World} {s : ByteArray} {o : Nat} (h : Bx W s o w) (hb : Below w.heap.size w w') : Bx W s o w' :=
  ⟨keepCell hb h.1, keepCell hb h.2.1, h.2.2.1.trans (hb.mono h.2.2.1.size), Nat.le_trans h.2.2.2 hb.size⟩
theorem Bx.grow {W w w' : World} {s : ByteArray} {o : Nat} (h : Bx W s o w) (hb : Below (W.heap.size + 2) w w') : Bx W s o w' :=
  ⟨(hb.cell (by show W.heap.size < W.heap.size + 2; omega)).trans h.1, (hb.cell (by show W.heap.size + 1 < W.heap.size + 2; omega)).trans h.2.1, h.2.2.1.trans (hb.mono (by omega)), Nat.le_trans h.2.2.2 hb.size⟩
theorem Bx.alloc {W w : World} {s : ByteArray} {o : Nat} (h : Bx W s o w) (x : Obj) : Bx W s o (w.alloc x) := h.below ((Below.refl _ _).alloc (Nat.le_refl _) _)

def NRel (s : ByteArray) (o : Nat) (Z : List Int) (W : World) (v i : Value) (wr : World) : Prop := ∃ (j k f : Nat) (out : List Int), k ≤ s.size + 1 ∧ i = .int .i64 k ∧ Hid (k = 2 * j) ∧ Hid (s.size ≤ 2 * j + f) ∧ Hid (nd s o f j out = Z) ∧ Hid (out.length ≤ j) ∧ (∃ a cap, v = .slice a out.length cap) ∧ Hid (Own wr (W.heap.size + 2) 3 v (i64s out)) ∧ Hid (Bx W s o wr)
def NPost (l : List Int) (W : World) (e : Ending) (w' : World) : Prop := ∃ v, e = .returned (.tuple #[v, .nilIface]) ∧ Own w' W.heap.size 3 v (i64s l) ∧ Below W.heap.size W w'
set_option maxRecDepth 100000 in
set_option maxHeartbeats 4000000 in
theorem narrow_any (s : ByteArray) (o : Nat) (ho : o ≤ 1) (hs : s.size ≤ 1000) (W : World) :
    Calls Tryd.prog 29 #[.string s, .int .i64 o] W (NPost (nd s o s.size 0 []) W) := by
  have hmf : ∀ (fn : Fn) (first cap : Array Value) (w : World), (Instr.makeFunc fn first cap).run Tryd.prog w = .ok (.func fn first cap) w := fun _ _ _ _ => rfl
  generalize hZ0 : nd s o s.size 0 [] = Z
  have hZ := Lib.hid hZ0
  clear hZ0
  have CU := Lib.hid (fun i w => fun hi => unit_any s o i (W.heap.size + 1) W.heap.size ho hi hs w)
  rcases (show o = 0 ∨ o = 1 by omega) with rfl | rfl
  · go_enter Tryd.func29, Tryd.ntmps29
    go_wp2_with fail
    go_loopw [7, 8] (fun v i wr => NRel s 0 Z W v i wr) (fun _ i _ => s.size + 2 - (intOf i).toNat)
    case atStart => exact ⟨0, 0, s.size, [], by omega, rfl, Lib.hid rfl, Lib.hid (by omega), hZ, Lib.hid (Nat.le_refl _), ⟨_, _, rfl⟩, Lib.hid (own_nil _ _ _), Lib.hid ⟨by simp, by simp, ((Below.refl _ _).alloc (Nat.le_refl _) _).alloc (by simp) _, by simp⟩⟩
    case round =>
      obtain ⟨j, k, f, out, hk, rfl, hkj, hfu, hu, hol, ⟨a, cap, rfl⟩, ho, hX⟩ := hrel
      clear hZ
      have hol2 : out.length ≤ 1000 := by have := hol.out; have := hkj.out; omega
      have q1 := hX.out.1
      by_cases hlt : k + 1 < s.size
      · obtain ⟨f', rfl⟩ : ∃ f', f = f' + 1 := ⟨f - 1, by have := hfu.out; have := hkj.out; omega⟩
        have t0 : (k : Int) + 1 < (s.size : Int) := by omega
        have hn := hf_lt s 0 k
        obtain ⟨k2, hk2⟩ : ∃ k2 : Nat, k2 = k + 2 := ⟨_, rfl⟩
        have hm := hf_lt s 0 k2
        have e1 : Hid (hf s 0 (2 * j) = hf s 0 k) := Lib.hid (by rw [hkj.out])
        have e2 : Hid (hf s 0 (2 * j + 2) = hf s 0 k2) := Lib.hid (by rw [hk2, hkj.out])
        have C1 := Lib.hid (fun w => CU.out k w hlt)
        have C2 := Lib.hid (fun w h => CU.out k2 w h)
        have hk2H := Lib.hid hk2
        have hk2i : (k : Int) + 2 = (k2 : Int) := by omega
        have hk2iH := Lib.hid hk2i
        have hk2l : k2 ≤ s.size := by omega
        clear hk2 hk2i
        have D2 := fun h h1 h2 h3 h4 => (nd_two s 0 f' j out h h1 h2 h3 h4).symm.trans hu.out
        have D3 := fun h1 h2 h3 => (nd_bad s 0 f' j out (by have := hkj.out; omega) h1 h2 h3).symm.trans hu.out
        have D1' := Lib.hid (fun h => (nd_one s 0 f' j out (by have := hkj.out; omega) h).symm.trans hu.out)
        rw [e1.out] at D1' D2 D3
        rw [e2.out] at D2 D3
        have D2H := Lib.hid D2
        have D3H := Lib.hid D3
        clear D2 D3 e1 e2
        generalize hf s 0 k = n at *
        generalize hf s 0 k2 = m at *
        rcases (show (n < 55296 ∨ 57343 < n) ∨ (55296 ≤ n ∧ n ≤ 57343) by omega) with hc | ⟨c1, c2⟩
        · have hu2 := Lib.hid (D1'.out hc)
          rcases hc with c1 | c1
          all_goals
            go_wp2_with fail
            refine (C1.out _ hX.out.2.1 hX.out.1).mono ?_; rintro e w2 ⟨rfl, hb⟩
            have hX2 := Lib.hid (hX.out.below hb)
            have ho2 := Lib.hid (ho.out.below hb)
            clear hb q1
            go_wp2_with (at_builtin; refine own_append1 rfl _ _ 50 rfl (W.heap.size + 2) 3 (.int .i64 0) 8 Tryd.underlying50 (by kernel_rfl) rfl _ _ rfl (ho2.out.alloc _) _ 1 _ rfl (new_cell _ _ _) rfl (by rw [i64s_len]; omega) (by rw [i64s_len]; omega) (le_alloc hX2.out.2.2.2 _) ?_; intro v1 w1 ho1 hg1 hb1 hat1; have hb2 := below_append (Below.refl (W.heap.size + 2) _) _ hX2.out.2.2.2 hb1; rw [i64s_snoc] at ho1; have hX1 := Lib.hid (hX2.out.grow hb2); have ho1H := Lib.hid ho1; clear hg1 hb1 hat1 hb2 ho1)
            go_roundw
            case rel => first | exact ⟨j + 1, k + 2, f', _, by omega, by go_num, Lib.hid (by have := hkj.out; omega), Lib.hid (by have := hfu.out; omega), hu2, Lib.hid (by have := hol.out; simp; omega), (by obtain ⟨a', c', e'⟩ := ho1H.out.len; rw [i64s_len] at e'; exact ⟨a', c', e'⟩), ho1H, hX1⟩ | ((repeat apply Exists.intro); exact ⟨⟨j + 1, k + 2, f', _, by omega, by go_num, Lib.hid (by have := hkj.out; omega), Lib.hid (by have := hfu.out; omega), hu2, Lib.hid (by have := hol.out; simp; omega), (by obtain ⟨a', c', e'⟩ := ho1H.out.len; rw [i64s_len] at e'; exact ⟨a', c', e'⟩), ho1H, hX1⟩, rfl⟩)
            case measure => simp [intOf]; omega
        · have b1 : decide ((n : Int) < 55296) = false := decide_eq_false (by omega)
          have b2 : decide ((57343 : Int) < (n : Int)) = false := decide_eq_false (by omega)
          by_cases d1 : n < 56320
          · have b3 : decide ((n : Int) < 56320) = true := decide_eq_true (by omega)
            by_cases d2 : k + 3 < s.size
            · have d2' : (k : Int) + 3 < (s.size : Int) := by omega
              have hk2s : k2 + 1 < s.size := by have := hk2H.out; omega
              by_cases d3 : 56320 ≤ m ∧ m ≤ 57343
              · have hu2 := Lib.hid (D2H.out (by have := hkj.out; omega) c1 d1 d3.1 d3.2)
                have mk : (bits .and .i64 (m : Int) 64512 == 56320) = true := by rw [in_mask m hm, decide_eq_true d3]
                have PI := Lib.hid (pair_is n m c1 d1 d3.1 d3.2)
                have l1 := low10 n hn
                have l2 := low10 m hm
                have hnH := Lib.hid hn
                have hmH := Lib.hid hm
                have r1 : n % 1024 < 1024 := Nat.mod_lt _ (by decide)
                have r2 : m % 1024 < 1024 := Nat.mod_lt _ (by decide)
                rw [l1, l2] at PI
                generalize n % 1024 = n' at *
                generalize m % 1024 = m' at *
                clear c1 c2 d1 d3 hn hm
                go_wp2_with fail
                refine (C1.out _ hX.out.2.1 hX.out.1).mono ?_; rintro e w2 ⟨rfl, hb⟩; have hX2 := Lib.hid (hX.out.below hb); have ho2 := Lib.hid (ho.out.below hb); have p2 := hX2.out.1; clear hb; clear q1
                go_wp2_with fail
                rw [hk2iH.out]
                refine (C2.out _ hk2s hX2.out.2.1 hX2.out.1).mono ?_; rintro e w3 ⟨rfl, hb⟩; have hX3 := Lib.hid (hX2.out.below hb); have ho3 := Lib.hid (ho2.out.below hb); have p3 := hX3.out.1; clear hb; clear p2
                go_wp2_with fail
                rw [hk2iH.out]
                refine (C2.out _ hk2s hX3.out.2.1 hX3.out.1).mono ?_; rintro e w4 ⟨rfl, hb⟩; have hX4 := Lib.hid (hX3.out.below hb); have ho4 := Lib.hid (ho3.out.below hb); have p4 := hX4.out.1; clear hb; clear p3
                go_wp2_with (at_builtin; refine own_append1 rfl _ _ 50 rfl (W.heap.size + 2) 3 (.int .i64 0) 8 Tryd.underlying50 (by kernel_rfl) rfl _ _ rfl (ho4.out.alloc _) _ 1 _ rfl (new_cell _ _ _) rfl (by rw [i64s_len]; omega) (by rw [i64s_len]; omega) (le_alloc hX4.out.2.2.2 _) ?_; intro v1 w1 ho1 hg1 hb1 hat1; have hb2 := below_append (Below.refl (W.heap.size + 2) _) _ hX4.out.2.2.2 hb1; rw [i64s_snoc] at ho1; have hX1 := Lib.hid (hX4.out.grow hb2); have ho1H := Lib.hid ho1; clear hg1 hb1 hat1 hb2 ho1)
                rw [PI.out] at ho1H
                go_roundw
                case rel => first | exact ⟨j + 2, k + 4, f', _, by omega, by go_num, Lib.hid (by have := hkj.out; omega), Lib.hid (by have := hfu.out; omega), hu2, Lib.hid (by have := hol.out; simp; omega), (by obtain ⟨a', c', e'⟩ := ho1H.out.len; rw [i64s_len] at e'; exact ⟨a', c', e'⟩), ho1H, hX1⟩ | ((repeat apply Exists.intro); exact ⟨⟨j + 2, k + 4, f', _, by omega, by go_num, Lib.hid (by have := hkj.out; omega), Lib.hid (by have := hfu.out; omega), hu2, Lib.hid (by have := hol.out; simp; omega), (by obtain ⟨a', c', e'⟩ := ho1H.out.len; rw [i64s_len] at e'; exact ⟨a', c', e'⟩), ho1H, hX1⟩, rfl⟩)
                case measure => simp [intOf]; omega
              · have hu2 := Lib.hid (D3H.out c1 c2 (fun h => d3 ⟨h.2.2.1, h.2.2.2⟩))
                have mk : (bits .and .i64 (m : Int) 64512 == 56320) = false := by rw [in_mask m hm, decide_eq_false d3]
                clear c1 c2 d1 d3 hn hm
                go_wp2_with fail
                refine (C1.out _ hX.out.2.1 hX.out.1).mono ?_; rintro e w2 ⟨rfl, hb⟩; have hX2 := Lib.hid (hX.out.below hb); have ho2 := Lib.hid (ho.out.below hb); have p2 := hX2.out.1; clear hb; clear q1
                go_wp2_with fail
                rw [hk2iH.out]
                refine (C2.out _ hk2s hX2.out.2.1 hX2.out.1).mono ?_; rintro e w3 ⟨rfl, hb⟩; have hX3 := Lib.hid (hX2.out.below hb); have ho3 := Lib.hid (ho2.out.below hb); have p3 := hX3.out.1; clear hb; clear p2
                go_wp2_with (at_builtin; refine own_append1 rfl _ _ 50 rfl (W.heap.size + 2) 3 (.int .i64 0) 8 Tryd.underlying50 (by kernel_rfl) rfl _ _ rfl (ho3.out.alloc _) _ 1 _ rfl (new_cell _ _ _) rfl (by rw [i64s_len]; omega) (by rw [i64s_len]; omega) (le_alloc hX3.out.2.2.2 _) ?_; intro v1 w1 ho1 hg1 hb1 hat1; have hb2 := below_append (Below.refl (W.heap.size + 2) _) _ hX3.out.2.2.2 hb1; rw [i64s_snoc] at ho1; have hX1 := Lib.hid (hX3.out.grow hb2); have ho1H := Lib.hid ho1; clear hg1 hb1 hat1 hb2 ho1)
                go_roundw
                case rel => first | exact ⟨j + 1, k + 2, f', _, by omega, by go_num, Lib.hid (by have := hkj.out; omega), Lib.hid (by have := hfu.out; omega), hu2, Lib.hid (by have := hol.out; simp; omega), (by obtain ⟨a', c', e'⟩ := ho1H.out.len; rw [i64s_len] at e'; exact ⟨a', c', e'⟩), ho1H, hX1⟩ | ((repeat apply Exists.intro); exact ⟨⟨j + 1, k + 2, f', _, by omega, by go_num, Lib.hid (by have := hkj.out; omega), Lib.hid (by have := hfu.out; omega), hu2, Lib.hid (by have := hol.out; simp; omega), (by obtain ⟨a', c', e'⟩ := ho1H.out.len; rw [i64s_len] at e'; exact ⟨a', c', e'⟩), ho1H, hX1⟩, rfl⟩)
                case measure => simp [intOf]; omega
            · have hu2 := Lib.hid (D3H.out c1 c2 (fun h => d2 (by have := hkj.out; omega)))
              have d2' : decide ((k : Int) + 3 < (s.size : Int)) = false := decide_eq_false (by omega)
              clear c1 c2 d1 d2 hn hm
              go_wp2_with fail
              refine (C1.out _ hX.out.2.1 hX.out.1).mono ?_; rintro e w2 ⟨rfl, hb⟩; have hX2 := Lib.hid (hX.out.below hb); have ho2 := Lib.hid (ho.out.below hb); have p2 := hX2.out.1; clear hb; clear q1
              go_wp2_with (at_builtin; refine own_append1 rfl _ _ 50 rfl (W.heap.size + 2) 3 (.int .i64 0) 8 Tryd.underlying50 (by kernel_rfl) rfl _ _ rfl (ho2.out.alloc _) _ 1 _ rfl (new_cell _ _ _) rfl (by rw [i64s_len]; omega) (by rw [i64s_len]; omega) (le_alloc hX2.out.2.2.2 _) ?_; intro v1 w1 ho1 hg1 hb1 hat1; have hb2 := below_append (Below.refl (W.heap.size + 2) _) _ hX2.out.2.2.2 hb1; rw [i64s_snoc] at ho1; have hX1 := Lib.hid (hX2.out.grow hb2); have ho1H := Lib.hid ho1; clear hg1 hb1 hat1 hb2 ho1)
              go_roundw
              case rel => first | exact ⟨j + 1, k + 2, f', _, by omega, by go_num, Lib.hid (by have := hkj.out; omega), Lib.hid (by have := hfu.out; omega), hu2, Lib.hid (by have := hol.out; simp; omega), (by obtain ⟨a', c', e'⟩ := ho1H.out.len; rw [i64s_len] at e'; exact ⟨a', c', e'⟩), ho1H, hX1⟩ | ((repeat apply Exists.intro); exact ⟨⟨j + 1, k + 2, f', _, by omega, by go_num, Lib.hid (by have := hkj.out; omega), Lib.hid (by have := hfu.out; omega), hu2, Lib.hid (by have := hol.out; simp; omega), (by obtain ⟨a', c', e'⟩ := ho1H.out.len; rw [i64s_len] at e'; exact ⟨a', c', e'⟩), ho1H, hX1⟩, rfl⟩)
              case measure => simp [intOf]; omega
          · have hu2 := Lib.hid (D3H.out c1 c2 (fun h => d1 h.1))
            have b3 : decide ((n : Int) < 56320) = false := decide_eq_false (by omega)
            clear c1 c2 d1 hn hm
            go_wp2_with fail
            refine (C1.out _ hX.out.2.1 hX.out.1).mono ?_; rintro e w2 ⟨rfl, hb⟩; have hX2 := Lib.hid (hX.out.below hb); have ho2 := Lib.hid (ho.out.below hb); have p2 := hX2.out.1; clear hb; clear q1
            go_wp2_with (at_builtin; refine own_append1 rfl _ _ 50 rfl (W.heap.size + 2) 3 (.int .i64 0) 8 Tryd.underlying50 (by kernel_rfl) rfl _ _ rfl (ho2.out.alloc _) _ 1 _ rfl (new_cell _ _ _) rfl (by rw [i64s_len]; omega) (by rw [i64s_len]; omega) (le_alloc hX2.out.2.2.2 _) ?_; intro v1 w1 ho1 hg1 hb1 hat1; have hb2 := below_append (Below.refl (W.heap.size + 2) _) _ hX2.out.2.2.2 hb1; rw [i64s_snoc] at ho1; have hX1 := Lib.hid (hX2.out.grow hb2); have ho1H := Lib.hid ho1; clear hg1 hb1 hat1 hb2 ho1)
            go_roundw
            case rel => first | exact ⟨j + 1, k + 2, f', _, by omega, by go_num, Lib.hid (by have := hkj.out; omega), Lib.hid (by have := hfu.out; omega), hu2, Lib.hid (by have := hol.out; simp; omega), (by obtain ⟨a', c', e'⟩ := ho1H.out.len; rw [i64s_len] at e'; exact ⟨a', c', e'⟩), ho1H, hX1⟩ | ((repeat apply Exists.intro); exact ⟨⟨j + 1, k + 2, f', _, by omega, by go_num, Lib.hid (by have := hkj.out; omega), Lib.hid (by have := hfu.out; omega), hu2, Lib.hid (by have := hol.out; simp; omega), (by obtain ⟨a', c', e'⟩ := ho1H.out.len; rw [i64s_len] at e'; exact ⟨a', c', e'⟩), ho1H, hX1⟩, rfl⟩)
            case measure => simp [intOf]; omega
      · by_cases hodd : 2 * j < s.size
        · obtain ⟨f', rfl⟩ : ∃ f', f = f' + 1 := ⟨f - 1, by have := hfu.out; omega⟩
          have hu2 := Lib.hid ((nd_odd s 0 f' j out (by have := hkj.out; omega)).symm.trans hu.out)
          have t0 : ¬ (k : Int) + 1 < (s.size : Int) := by omega
          have t1 : (k : Int) < (s.size : Int) := by have := hkj.out; omega
          go_wp2_with (at_builtin; refine own_append1 rfl _ _ 50 rfl (W.heap.size + 2) 3 (.int .i64 0) 8 Tryd.underlying50 (by kernel_rfl) rfl _ _ rfl (ho.out.alloc _) _ 1 _ rfl (new_cell _ _ _) rfl (by rw [i64s_len]; omega) (by rw [i64s_len]; omega) (le_alloc hX.out.2.2.2 _) ?_; intro v1 w1 ho1 hg1 hb1 hat1; have hb2 := below_append (Below.refl (W.heap.size + 2) _) _ hX.out.2.2.2 hb1; rw [i64s_snoc] at ho1; have hX1 := Lib.hid (hX.out.grow hb2); have ho1H := Lib.hid ho1; clear hg1 hb1 hat1 hb2 ho1)
          go_ret2
          rw [← hu2.out]
          exact ⟨_, rfl, ho1H.out.base (by omega), hX1.out.2.2.1⟩
        · have hu2 := Lib.hid ((nd_end s 0 f j out (by omega)).symm.trans hu.out)
          have t0 : ¬ (k : Int) + 1 < (s.size : Int) := by omega
          have t1 : ¬ (k : Int) < (s.size : Int) := by have := hkj.out; omega
          go_wp2_with fail
          go_ret2
          rw [← hu2.out]
          exact ⟨_, rfl, ho.out.base (by omega), hX.out.2.2.1⟩
  · go_enter Tryd.func29, Tryd.ntmps29
    go_wp2_with fail
    go_loopw [7, 8] (fun v i wr => NRel s 1 Z W v i wr) (fun _ i _ => s.size + 2 - (intOf i).toNat)
    case atStart => exact ⟨0, 0, s.size, [], by omega, rfl, Lib.hid rfl, Lib.hid (by omega), hZ, Lib.hid (Nat.le_refl _), ⟨_, _, rfl⟩, Lib.hid (own_nil _ _ _), Lib.hid ⟨by simp, by simp, ((Below.refl _ _).alloc (Nat.le_refl _) _).alloc (by simp) _, by simp⟩⟩
    case round =>
      obtain ⟨j, k, f, out, hk, rfl, hkj, hfu, hu, hol, ⟨a, cap, rfl⟩, ho, hX⟩ := hrel
      clear hZ
      have hol2 : out.length ≤ 1000 := by have := hol.out; have := hkj.out; omega
      have q1 := hX.out.1
      by_cases hlt : k + 1 < s.size
      · obtain ⟨f', rfl⟩ : ∃ f', f = f' + 1 := ⟨f - 1, by have := hfu.out; have := hkj.out; omega⟩
        have t0 : (k : Int) + 1 < (s.size : Int) := by omega
        have hn := hf_lt s 1 k
        obtain ⟨k2, hk2⟩ : ∃ k2 : Nat, k2 = k + 2 := ⟨_, rfl⟩
        have hm := hf_lt s 1 k2
        have e1 : Hid (hf s 1 (2 * j) = hf s 1 k) := Lib.hid (by rw [hkj.out])
        have e2 : Hid (hf s 1 (2 * j + 2) = hf s 1 k2) := Lib.hid (by rw [hk2, hkj.out])
        have C1 := Lib.hid (fun w => CU.out k w hlt)
        have C2 := Lib.hid (fun w h => CU.out k2 w h)
        have hk2H := Lib.hid hk2
        have hk2i : (k : Int) + 2 = (k2 : Int) := by omega
        have hk2iH := Lib.hid hk2i
        have hk2l : k2 ≤ s.size := by omega
        clear hk2 hk2i
        have D2 := fun h h1 h2 h3 h4 => (nd_two s 1 f' j out h h1 h2 h3 h4).symm.trans hu.out
        have D3 := fun h1 h2 h3 => (nd_bad s 1 f' j out (by have := hkj.out; omega) h1 h2 h3).symm.trans hu.out
        have D1' := Lib.hid (fun h => (nd_one s 1 f' j out (by have := hkj.out; omega) h).symm.trans hu.out)
        rw [e1.out] at D1' D2 D3
        rw [e2.out] at D2 D3
        have D2H := Lib.hid D2
        have D3H := Lib.hid D3
        clear D2 D3 e1 e2
        generalize hf s 1 k = n at *
        generalize hf s 1 k2 = m at *
        rcases (show (n < 55296 ∨ 57343 < n) ∨ (55296 ≤ n ∧ n ≤ 57343) by omega) with hc | ⟨c1, c2⟩
        · have hu2 := Lib.hid (D1'.out hc)
          rcases hc with c1 | c1
          all_goals
            go_wp2_with fail
            refine (C1.out _ hX.out.2.1 hX.out.1).mono ?_; rintro e w2 ⟨rfl, hb⟩
            have hX2 := Lib.hid (hX.out.below hb)
            have ho2 := Lib.hid (ho.out.below hb)
            clear hb q1
            go_wp2_with (at_builtin; refine own_append1 rfl _ _ 50 rfl (W.heap.size + 2) 3 (.int .i64 0) 8 Tryd.underlying50 (by kernel_rfl) rfl _ _ rfl (ho2.out.alloc _) _ 1 _ rfl (new_cell _ _ _) rfl (by rw [i64s_len]; omega) (by rw [i64s_len]; omega) (le_alloc hX2.out.2.2.2 _) ?_; intro v1 w1 ho1 hg1 hb1 hat1; have hb2 := below_append (Below.refl (W.heap.size + 2) _) _ hX2.out.2.2.2 hb1; rw [i64s_snoc] at ho1; have hX1 := Lib.hid (hX2.out.grow hb2); have ho1H := Lib.hid ho1; clear hg1 hb1 hat1 hb2 ho1)
            go_roundw
            case rel => first | exact ⟨j + 1, k + 2, f', _, by omega, by go_num, Lib.hid (by have := hkj.out; omega), Lib.hid (by have := hfu.out; omega), hu2, Lib.hid (by have := hol.out; simp; omega), (by obtain ⟨a', c', e'⟩ := ho1H.out.len; rw [i64s_len] at e'; exact ⟨a', c', e'⟩), ho1H, hX1⟩ | ((repeat apply Exists.intro); exact ⟨⟨j + 1, k + 2, f', _, by omega, by go_num, Lib.hid (by have := hkj.out; omega), Lib.hid (by have := hfu.out; omega), hu2, Lib.hid (by have := hol.out; simp; omega), (by obtain ⟨a', c', e'⟩ := ho1H.out.len; rw [i64s_len] at e'; exact ⟨a', c', e'⟩), ho1H, hX1⟩, rfl⟩)
            case measure => simp [intOf]; omega
        · have b1 : decide ((n : Int) < 55296) = false := decide_eq_false (by omega)
          have b2 : decide ((57343 : Int) < (n : Int)) = false := decide_eq_false (by omega)
          by_cases d1 : n < 56320
          · have b3 : decide ((n : Int) < 56320) = true := decide_eq_true (by omega)
            by_cases d2 : k + 3 < s.size
            · have d2' : (k : Int) + 3 < (s.size : Int) := by omega
              have hk2s : k2 + 1 < s.size := by have := hk2H.out; omega
              by_cases d3 : 56320 ≤ m ∧ m ≤ 57343
              · have hu2 := Lib.hid (D2H.out (by have := hkj.out; omega) c1 d1 d3.1 d3.2)
                have mk : (bits .and .i64 (m : Int) 64512 == 56320) = true := by rw [in_mask m hm, decide_eq_true d3]
                have PI := Lib.hid (pair_is n m c1 d1 d3.1 d3.2)
                have l1 := low10 n hn
                have l2 := low10 m hm
                have hnH := Lib.hid hn
                have hmH := Lib.hid hm
                have r1 : n % 1024 < 1024 := Nat.mod_lt _ (by decide)
                have r2 : m % 1024 < 1024 := Nat.mod_lt _ (by decide)
                rw [l1, l2] at PI
                generalize n % 1024 = n' at *
                generalize m % 1024 = m' at *
                clear c1 c2 d1 d3 hn hm
                go_wp2_with fail
                refine (C1.out _ hX.out.2.1 hX.out.1).mono ?_; rintro e w2 ⟨rfl, hb⟩; have hX2 := Lib.hid (hX.out.below hb); have ho2 := Lib.hid (ho.out.below hb); have p2 := hX2.out.1; clear hb; clear q1
                go_wp2_with fail
                rw [hk2iH.out]
                refine (C2.out _ hk2s hX2.out.2.1 hX2.out.1).mono ?_; rintro e w3 ⟨rfl, hb⟩; have hX3 := Lib.hid (hX2.out.below hb); have ho3 := Lib.hid (ho2.out.below hb); have p3 := hX3.out.1; clear hb; clear p2
                go_wp2_with fail
                rw [hk2iH.out]
                refine (C2.out _ hk2s hX3.out.2.1 hX3.out.1).mono ?_; rintro e w4 ⟨rfl, hb⟩; have hX4 := Lib.hid (hX3.out.below hb); have ho4 := Lib.hid (ho3.out.below hb); have p4 := hX4.out.1; clear hb; clear p3
                go_wp2_with (at_builtin; refine own_append1 rfl _ _ 50 rfl (W.heap.size + 2) 3 (.int .i64 0) 8 Tryd.underlying50 (by kernel_rfl) rfl _ _ rfl (ho4.out.alloc _) _ 1 _ rfl (new_cell _ _ _) rfl (by rw [i64s_len]; omega) (by rw [i64s_len]; omega) (le_alloc hX4.out.2.2.2 _) ?_; intro v1 w1 ho1 hg1 hb1 hat1; have hb2 := below_append (Below.refl (W.heap.size + 2) _) _ hX4.out.2.2.2 hb1; rw [i64s_snoc] at ho1; have hX1 := Lib.hid (hX4.out.grow hb2); have ho1H := Lib.hid ho1; clear hg1 hb1 hat1 hb2 ho1)
                rw [PI.out] at ho1H
                go_roundw
                case rel => first | exact ⟨j + 2, k + 4, f', _, by omega, by go_num, Lib.hid (by have := hkj.out; omega), Lib.hid (by have := hfu.out; omega), hu2, Lib.hid (by have := hol.out; simp; omega), (by obtain ⟨a', c', e'⟩ := ho1H.out.len; rw [i64s_len] at e'; exact ⟨a', c', e'⟩), ho1H, hX1⟩ | ((repeat apply Exists.intro); exact ⟨⟨j + 2, k + 4, f', _, by omega, by go_num, Lib.hid (by have := hkj.out; omega), Lib.hid (by have := hfu.out; omega), hu2, Lib.hid (by have := hol.out; simp; omega), (by obtain ⟨a', c', e'⟩ := ho1H.out.len; rw [i64s_len] at e'; exact ⟨a', c', e'⟩), ho1H, hX1⟩, rfl⟩)
                case measure => simp [intOf]; omega
              · have hu2 := Lib.hid (D3H.out c1 c2 (fun h => d3 ⟨h.2.2.1, h.2.2.2⟩))
                have mk : (bits .and .i64 (m : Int) 64512 == 56320) = false := by rw [in_mask m hm, decide_eq_false d3]
                clear c1 c2 d1 d3 hn hm
                go_wp2_with fail
                refine (C1.out _ hX.out.2.1 hX.out.1).mono ?_; rintro e w2 ⟨rfl, hb⟩; have hX2 := Lib.hid (hX.out.below hb); have ho2 := Lib.hid (ho.out.below hb); have p2 := hX2.out.1; clear hb; clear q1
                go_wp2_with fail
                rw [hk2iH.out]
                refine (C2.out _ hk2s hX2.out.2.1 hX2.out.1).mono ?_; rintro e w3 ⟨rfl, hb⟩; have hX3 := Lib.hid (hX2.out.below hb); have ho3 := Lib.hid (ho2.out.below hb); have p3 := hX3.out.1; clear hb; clear p2
                go_wp2_with (at_builtin; refine own_append1 rfl _ _ 50 rfl (W.heap.size + 2) 3 (.int .i64 0) 8 Tryd.underlying50 (by kernel_rfl) rfl _ _ rfl (ho3.out.alloc _) _ 1 _ rfl (new_cell _ _ _) rfl (by rw [i64s_len]; omega) (by rw [i64s_len]; omega) (le_alloc hX3.out.2.2.2 _) ?_; intro v1 w1 ho1 hg1 hb1 hat1; have hb2 := below_append (Below.refl (W.heap.size + 2) _) _ hX3.out.2.2.2 hb1; rw [i64s_snoc] at ho1; have hX1 := Lib.hid (hX3.out.grow hb2); have ho1H := Lib.hid ho1; clear hg1 hb1 hat1 hb2 ho1)
                go_roundw
                case rel => first | exact ⟨j + 1, k + 2, f', _, by omega, by go_num, Lib.hid (by have := hkj.out; omega), Lib.hid (by have := hfu.out; omega), hu2, Lib.hid (by have := hol.out; simp; omega), (by obtain ⟨a', c', e'⟩ := ho1H.out.len; rw [i64s_len] at e'; exact ⟨a', c', e'⟩), ho1H, hX1⟩ | ((repeat apply Exists.intro); exact ⟨⟨j + 1, k + 2, f', _, by omega, by go_num, Lib.hid (by have := hkj.out; omega), Lib.hid (by have := hfu.out; omega), hu2, Lib.hid (by have := hol.out; simp; omega), (by obtain ⟨a', c', e'⟩ := ho1H.out.len; rw [i64s_len] at e'; exact ⟨a', c', e'⟩), ho1H, hX1⟩, rfl⟩)
                case measure => simp [intOf]; omega
            · have hu2 := Lib.hid (D3H.out c1 c2 (fun h => d2 (by have := hkj.out; omega)))
              have d2' : decide ((k : Int) + 3 < (s.size : Int)) = false := decide_eq_false (by omega)
              clear c1 c2 d1 d2 hn hm
              go_wp2_with fail
              refine (C1.out _ hX.out.2.1 hX.out.1).mono ?_; rintro e w2 ⟨rfl, hb⟩; have hX2 := Lib.hid (hX.out.below hb); have ho2 := Lib.hid (ho.out.below hb); have p2 := hX2.out.1; clear hb; clear q1
              go_wp2_with (at_builtin; refine own_append1 rfl _ _ 50 rfl (W.heap.size + 2) 3 (.int .i64 0) 8 Tryd.underlying50 (by kernel_rfl) rfl _ _ rfl (ho2.out.alloc _) _ 1 _ rfl (new_cell _ _ _) rfl (by rw [i64s_len]; omega) (by rw [i64s_len]; omega) (le_alloc hX2.out.2.2.2 _) ?_; intro v1 w1 ho1 hg1 hb1 hat1; have hb2 := below_append (Below.refl (W.heap.size + 2) _) _ hX2.out.2.2.2 hb1; rw [i64s_snoc] at ho1; have hX1 := Lib.hid (hX2.out.grow hb2); have ho1H := Lib.hid ho1; clear hg1 hb1 hat1 hb2 ho1)
              go_roundw
              case rel => first | exact ⟨j + 1, k + 2, f', _, by omega, by go_num, Lib.hid (by have := hkj.out; omega), Lib.hid (by have := hfu.out; omega), hu2, Lib.hid (by have := hol.out; simp; omega), (by obtain ⟨a', c', e'⟩ := ho1H.out.len; rw [i64s_len] at e'; exact ⟨a', c', e'⟩), ho1H, hX1⟩ | ((repeat apply Exists.intro); exact ⟨⟨j + 1, k + 2, f', _, by omega, by go_num, Lib.hid (by have := hkj.out; omega), Lib.hid (by have := hfu.out; omega), hu2, Lib.hid (by have := hol.out; simp; omega), (by obtain ⟨a', c', e'⟩ := ho1H.out.len; rw [i64s_len] at e'; exact ⟨a', c', e'⟩), ho1H, hX1⟩, rfl⟩)
              case measure => simp [intOf]; omega
          · have hu2 := Lib.hid (D3H.out c1 c2 (fun h => d1 h.1))
            have b3 : decide ((n : Int) < 56320) = false := decide_eq_false (by omega)
            clear c1 c2 d1 hn hm
            go_wp2_with fail
            refine (C1.out _ hX.out.2.1 hX.out.1).mono ?_; rintro e w2 ⟨rfl, hb⟩; have hX2 := Lib.hid (hX.out.below hb); have ho2 := Lib.hid (ho.out.below hb); have p2 := hX2.out.1; clear hb; clear q1
            go_wp2_with (at_builtin; refine own_append1 rfl _ _ 50 rfl (W.heap.size + 2) 3 (.int .i64 0) 8 Tryd.underlying50 (by kernel_rfl) rfl _ _ rfl (ho2.out.alloc _) _ 1 _ rfl (new_cell _ _ _) rfl (by rw [i64s_len]; omega) (by rw [i64s_len]; omega) (le_alloc hX2.out.2.2.2 _) ?_; intro v1 w1 ho1 hg1 hb1 hat1; have hb2 := below_append (Below.refl (W.heap.size + 2) _) _ hX2.out.2.2.2 hb1; rw [i64s_snoc] at ho1; have hX1 := Lib.hid (hX2.out.grow hb2); have ho1H := Lib.hid ho1; clear hg1 hb1 hat1 hb2 ho1)
            go_roundw
            case rel => first | exact ⟨j + 1, k + 2, f', _, by omega, by go_num, Lib.hid (by have := hkj.out; omega), Lib.hid (by have := hfu.out; omega), hu2, Lib.hid (by have := hol.out; simp; omega), (by obtain ⟨a', c', e'⟩ := ho1H.out.len; rw [i64s_len] at e'; exact ⟨a', c', e'⟩), ho1H, hX1⟩ | ((repeat apply Exists.intro); exact ⟨⟨j + 1, k + 2, f', _, by omega, by go_num, Lib.hid (by have := hkj.out; omega), Lib.hid (by have := hfu.out; omega), hu2, Lib.hid (by have := hol.out; simp; omega), (by obtain ⟨a', c', e'⟩ := ho1H.out.len; rw [i64s_len] at e'; exact ⟨a', c', e'⟩), ho1H, hX1⟩, rfl⟩)
            case measure => simp [intOf]; omega
      · by_cases hodd : 2 * j < s.size
        · obtain ⟨f', rfl⟩ : ∃ f', f = f' + 1 := ⟨f - 1, by have := hfu.out; omega⟩
          have hu2 := Lib.hid ((nd_odd s 1 f' j out (by have := hkj.out; omega)).symm.trans hu.out)
          have t0 : ¬ (k : Int) + 1 < (s.size : Int) := by omega
          have t1 : (k : Int) < (s.size : Int) := by have := hkj.out; omega
          go_wp2_with (at_builtin; refine own_append1 rfl _ _ 50 rfl (W.heap.size + 2) 3 (.int .i64 0) 8 Tryd.underlying50 (by kernel_rfl) rfl _ _ rfl (ho.out.alloc _) _ 1 _ rfl (new_cell _ _ _) rfl (by rw [i64s_len]; omega) (by rw [i64s_len]; omega) (le_alloc hX.out.2.2.2 _) ?_; intro v1 w1 ho1 hg1 hb1 hat1; have hb2 := below_append (Below.refl (W.heap.size + 2) _) _ hX.out.2.2.2 hb1; rw [i64s_snoc] at ho1; have hX1 := Lib.hid (hX.out.grow hb2); have ho1H := Lib.hid ho1; clear hg1 hb1 hat1 hb2 ho1)
          go_ret2
          rw [← hu2.out]
          exact ⟨_, rfl, ho1H.out.base (by omega), hX1.out.2.2.1⟩
        · have hu2 := Lib.hid ((nd_end s 1 f j out (by omega)).symm.trans hu.out)
          have t0 : ¬ (k : Int) + 1 < (s.size : Int) := by omega
          have t1 : ¬ (k : Int) < (s.size : Int) := by have := hkj.out; omega
          go_wp2_with fail
          go_ret2
          rw [← hu2.out]
          exact ⟨_, rfl, ho.out.base (by omega), hX.out.2.2.1⟩
end Go.Proofs.YtifnochpmlllgaaDoor.Nar
