/-
  PROVED HERE: the contracts of piece's walk, All, and its function. Conditions: as each theorem states.
-/
import Derived.RangeFuncNested
import Derived.RangeFuncWrites
import Derived.RangeFuncBox
import Derived.RangeFuncBound
import Derived.RangeFuncCalls
import Derived.RangeFuncLeaves
import Derived.RangeFuncKeeps
import Derived.Shelf.Abstract
import Derived.WalkKit
import Derived.OwnWalkIn
import Derived.TacticsInMore
import Derived.LoopNIn
import Derived.LoopIn
import Derived.Test.YtfckhkpheahgaaaDoorPcI
namespace Go.Proofs.YtfckhkpheahgaaaDoor.Pc
open Go.RowKit Go.Shelf
attribute [local go_sem] Oper.semAt_some
theorem room_of_none {F : Fence} (hd : F.depth = none) (k : Nat) : F.room k := fun d h => by rw [hd] at h; cases h
theorem roundAny {F : Fence} (hd : F.depth = none) {m m' : Nat} {P : Program} {l : Nat} {f : FuncId} {tmps : Array Value} {assign body : Code} {w : World} {R : Ending → World → Prop}
    (h : RoundIn F m P l f tmps assign body w R) : RoundIn F m' P l f tmps assign body w R := ⟨h.1, fun c cs _ => h.2 c cs (room_of_none hd _)⟩
theorem yieldAny {F : Fence} (hd : F.depth = none) {m : Nat} (m' : Nat) {P : Program} {l : Nat} {args : Array Value} {W : World} {R : Ending → World → Prop} (h : YieldAt F m P l args W R) : YieldAt F m' P l args W R := by
  obtain ⟨fn, tmps, assign, body, hy, hR⟩ := h
  exact ⟨fn, tmps, assign, body, hy, roundAny hd hR⟩
/-- A text, if it is no longer than that. -/
def capS (x : ByteArray) : ByteArray := if x.size ≤ 50000 then x else ⟨#[]⟩
theorem capS_of {x : ByteArray} (h : x.size ≤ 50000) : capS x = x := if_pos h
theorem capS_le (x : ByteArray) : (capS x).size ≤ 50000 := by
  unfold capS
  split
  · assumption
  · exact Nat.zero_le _
/-- The tree lies in blocks below n₀. -/
def LowT (n₀ : Nat) (w : World) : Value → Tr → Prop
  | v, .nil => v = .pointer none
  | v, .node l t r => ∃ (b : Nat) (vl vr : Option Addr), v = .pointer (some ⟨b, 0, none⟩) ∧ (b < n₀ ∧ t.size ≤ 50000) ∧ w.cell? ⟨b, 0, none⟩ = some (.string t) ∧ w.cell? ⟨b, 3, none⟩ = some (.pointer vl) ∧ w.cell? ⟨b, 4, none⟩ = some (.pointer vr) ∧ LowT n₀ w (.pointer vl) l ∧ LowT n₀ w (.pointer vr) r
theorem LowT.below {n₀ : Nat} {A B : World} (h : Below n₀ A B) : ∀ {v : Value} {T : Tr}, LowT n₀ A v T → LowT n₀ B v T
  | _, .nil, ht => ht
  | _, .node _ _ _, ⟨b, vl, vr, e, hb, c0, c3, c4, hl, hr⟩ => ⟨b, vl, vr, e, hb, (h.cell (p := ⟨b, 0, none⟩) hb.1).trans c0, (h.cell (p := ⟨b, 3, none⟩) hb.1).trans c3, (h.cell (p := ⟨b, 4, none⟩) hb.1).trans c4, hl.below h, hr.below h⟩
theorem IsT.low {w : World} {n₀ : Nat} (hn : w.heap.size ≤ n₀) : ∀ {v : Value} {T : Tr}, IsT w v T → T.txt.length ≤ 50000 → LowT n₀ w v T
  | _, .nil, h, _ => h
  | _, .node l t r, ⟨b, vl, vr, e, c0, _, _, c3, c4, hl, hr⟩, hb => by
    rw [len_node] at hb
    exact ⟨b, vl, vr, e, ⟨Nat.lt_of_lt_of_le (World.block_lt_of_cell? _ _ c0) hn, by omega⟩, c0, c3, c4, hl.low hn (by omega), hr.low hn (by omega)⟩
set_option maxRecDepth 100000 in
set_option maxHeartbeats 2000000 in
theorem walk_in (F : Fence) (hd : F.depth = none) (h6 : F.fn 23) (hro : F.round = none) (l n₀ N : Nat) (J Jx : List ByteArray → World → Prop)
    (hY : ∀ m pre x W, J pre W → pre.length < N → YieldAt F m Tryd.prog l #[.string (capS x)] W fun e W' =>
      (e = .returned (.bool true) ∧ J (pre ++ [x]) W' ∧ Below n₀ W W') ∨ (e = .returned (.bool false) ∧ Jx (pre ++ [x]) W')) (T : Tr) :
    ∀ (n : Nat) (p : Option Addr) (pre : List ByteArray) (W : World), LowT n₀ W (.pointer p) T → J pre W → pre.length + T.parts.length ≤ N →
      CallsIn F n Tryd.prog 23 #[.pointer p, .func (.yield l) #[] #[]] W fun e W' =>
        (e = .returned (.bool true) ∧ J (pre ++ T.parts) W' ∧ Below n₀ W W') ∨ (e = .returned (.bool false) ∧ ∃ q, q <+: T.parts ∧ Jx (pre ++ q) W') := by
  induction T with
  | nil =>
    intro n p pre W ht hJ _
    obtain rfl : p = none := by injection ht
    refine callsIn_of_wp Tryd.func23 rfl h6 ?_ hro
    simp only [Tryd.ntmps23, List.size_toArray, List.length_cons, List.length_nil, Nat.reduceAdd, Nat.reduceSub, Array.replicate_succ, Array.replicate_zero, List.push_toArray, List.append_toArray, List.nil_append, List.cons_append]
    gi_wp2
    all_goals first
      | (exfalso; simp [undef] at *; done)
      | skip
    refine ⟨fun _ h => (by cases h), ?_⟩
    gi_wp2
    go_ret
    exact .inl ⟨rfl, by simpa [Tr.parts] using hJ, Below.refl _ _⟩
  | node tl v tr ihl ihr =>
    intro n p pre W ht hJ hN
    obtain ⟨b, pl, pr, e, ⟨hb, hv⟩, c0, c3, c4, hl, hr⟩ := ht
    have hcv := capS_of hv
    obtain rfl : p = some ⟨b, 0, none⟩ := by injection e
    clear e
    have hdd : ∀ k : Nat, (F.depth.isSome = true → 1 ≤ k) := fun k h => by rw [hd] at h; cases h
    simp only [Tr.parts, List.length_append, List.length_cons] at hN
    have hy2 : ∀ W1, J (pre ++ tl.parts) W1 → Below n₀ W W1 → YieldAt F (n - 1) Tryd.prog l #[.string v] W1 fun e W2 =>
        (e = .returned (.bool true) ∧ J (pre ++ tl.parts ++ [v]) W2 ∧ Below n₀ W W2 ∧ W2.cell? ⟨b, 4, none⟩ = some (.pointer pr) ∧ LowT n₀ W2 (.pointer pr) tr) ∨ (e = .returned (.bool false) ∧ Jx (pre ++ tl.parts ++ [v]) W2) := fun W1 hJ1 hb1 =>
      YieldAt.mono (hcv ▸ hY (n - 1) _ v W1 hJ1 (by simp; omega)) fun e W2 h => h.elim
        (fun ⟨he, hj, hb2⟩ => .inl ⟨he, hj, hb1.trans hb2, ((hb1.trans hb2).cell (p := ⟨b, 4, none⟩) hb).trans c4, hr.below (hb1.trans hb2)⟩) .inr
    have ih1 := (ihl (n - 1) pl pre W hl hJ (by omega)).mono (R' := fun e W1 =>
        (e = .returned (.bool true) ∧ W1.cell? ⟨b, 0, none⟩ = some (.string v) ∧ YieldAt F (n - 1) Tryd.prog l #[.string v] W1 fun e W2 =>
          (e = .returned (.bool true) ∧ J (pre ++ tl.parts ++ [v]) W2 ∧ Below n₀ W W2 ∧ W2.cell? ⟨b, 4, none⟩ = some (.pointer pr) ∧ LowT n₀ W2 (.pointer pr) tr) ∨ (e = .returned (.bool false) ∧ Jx (pre ++ tl.parts ++ [v]) W2)) ∨
        (e = .returned (.bool false) ∧ ∃ q, q <+: tl.parts ∧ Jx (pre ++ q) W1))
      (fun e W1 h => h.elim (fun ⟨he, hj, hb1⟩ => .inl ⟨he, (hb1.cell (p := ⟨b, 0, none⟩) hb).trans c0, hy2 W1 hj hb1⟩) .inr)
    clear hy2 ihl hcv hv
    refine callsIn_of_wp Tryd.func23 rfl h6 ?_ hro
    simp only [Tryd.ntmps23, List.size_toArray, List.length_cons, List.length_nil, Nat.reduceAdd, Nat.reduceSub, Array.replicate_succ, Array.replicate_zero, List.push_toArray, List.append_toArray, List.nil_append, List.cons_append]
    gi_wp2_with (first
      | ((try refine ⟨hdd _, ?_⟩); gi_at_call 23; refine ih1.mono ?_; clear ih1; rintro e W1 (⟨rfl, c1', fn, tmps, assign, body, hy, hR⟩ | ⟨rfl, q, hq, hx1⟩))
      | ((try refine ⟨hdd _, ?_⟩); refine hR.mono ?_; clear hR; rintro e W2 (⟨rfl, hJ2, hb2, c2', hr2⟩ | ⟨rfl, hx2⟩))
      | ((try refine ⟨hdd _, ?_⟩); gi_at_call 23; refine (ihr (n - 1) pr _ _ hr2 hJ2 (by simp; omega)).mono ?_; rintro e W3 (⟨rfl, hJ3, hb3⟩ | ⟨rfl, q, hq, hx3⟩)))
    · go_ret
      exact .inl ⟨rfl, by simpa [Tr.parts, List.append_assoc] using hJ3, hb2.trans hb3⟩
    · go_ret
      obtain ⟨r, hr'⟩ := hq
      exact .inr ⟨rfl, tl.parts ++ v :: q, ⟨r, by simp [Tr.parts, ← hr']⟩, by simpa [List.append_assoc] using hx3⟩
    · go_ret
      exact .inr ⟨rfl, tl.parts ++ [v], ⟨tr.parts, by simp [Tr.parts]⟩, by simpa [List.append_assoc] using hx2⟩
    · refine ⟨fun _ h => (by cases h), ?_⟩
      gi_wp2
      go_ret
      exact .inr ⟨rfl, q, hq.trans (by simp [Tr.parts]), hx1⟩
set_option maxHeartbeats 1000000 in
theorem all1_in (F : Fence) (hd : F.depth = none) (n : Nat) (h5 : F.fn 22) (h6 : F.fn 23) (hro : F.round = none) (l Bt n₀ : Nat) (p0 : Option Addr) (T : Tr) (J Jx : List ByteArray → World → Prop)
    (hY : ∀ pre x W, J pre W → pre.length < T.parts.length → YieldAt F (n - 1) Tryd.prog l #[.string (capS x)] W fun e W' =>
      (e = .returned (.bool true) ∧ J (pre ++ [x]) W' ∧ Below n₀ W W') ∨ (e = .returned (.bool false) ∧ Jx (pre ++ [x]) W'))
    (W : World) (hBt : W.cell? ⟨Bt, 0, none⟩ = some (.pointer p0)) (hT : LowT n₀ W (.pointer p0) T) (h0 : J [] W) :
    CallsIn F n Tryd.prog 22 #[.func (.yield l) #[] #[], .pointer (some ⟨Bt, 0, none⟩)] W fun e W' => (∃ v, e = .returned v) ∧
      ((∃ ys, ys = T.parts ∧ J ys W') ∨ (∃ pre, pre <+: T.parts ∧ Jx pre W')) := by
  have hdd : ∀ k : Nat, (F.depth.isSome = true → 1 ≤ k) := fun k h => by rw [hd] at h; cases h
  have hp := walk_in F hd h6 hro l n₀ T.parts.length J Jx (fun m pre x W hj hl => yieldAny hd m (hY pre x W hj hl)) T (n - 1) p0 [] W hT h0 (by simp)
  refine callsIn_of_wp Tryd.func22 rfl h5 ?_ hro
  simp only [Tryd.ntmps22, List.size_toArray, List.length_cons, List.length_nil, Nat.reduceAdd, Nat.reduceSub, Array.replicate_succ, Array.replicate_zero, List.push_toArray, List.append_toArray, List.nil_append, List.cons_append]
  gi_wp2_with ((try refine ⟨hdd _, ?_⟩); gi_at_call 23; refine hp.mono ?_; clear hp; rintro e W1 (⟨rfl, hJ1, _⟩ | ⟨rfl, q, hq, hx⟩))
  · go_end0
    exact ⟨⟨_, rfl⟩, .inl ⟨_, rfl, by simpa using hJ1⟩⟩
  · go_end0
    exact ⟨⟨_, rfl⟩, .inr ⟨q, hq, by simpa using hx⟩⟩
set_option maxHeartbeats 1000000 in
theorem all_in (F : Fence) (n : Nat) (h4 : F.fn 17) (hro : F.round = none) (p0 : Option Addr) (w : World) :
    CallsIn F n Tryd.prog 17 #[.agg #[.pointer p0]] w fun e w' => e = .returned (.func (.func 22) #[] #[.pointer (some ⟨w.heap.size, 0, none⟩)]) ∧ w' = w.alloc (.cells #[.pointer p0] 26) := by
  refine callsIn_of_wp Tryd.func17 rfl h4 ?_ hro
  simp only [Tryd.ntmps17, List.size_toArray, List.length_cons, List.length_nil, Nat.reduceAdd, Nat.reduceSub, Array.replicate_succ, Array.replicate_zero, List.push_toArray, List.append_toArray, List.nil_append, List.cons_append]
  gi_wp2
  go_ret
  exact ⟨rfl, rfl⟩
theorem all_stops (F : Fence) (hd : F.depth = none) (n : Nat) (h5 : F.fn 22) (h6 : F.fn 23) (hro : F.round = none) (Bt n₀ : Nat) (p0 : Option Addr) (T : Tr) (w : World) (hBt : Bt < w.heap.size) (hn₀ : n₀ ≤ w.heap.size)
    (hc : w.cell? ⟨Bt, 0, none⟩ = some (.pointer p0)) (hT : LowT n₀ w (.pointer p0) T) :
    SeqStopsK F n Tryd.prog 22 #[.pointer (some ⟨Bt, 0, none⟩)] (fun x : ByteArray => #[Value.string (capS x)]) (Below n₀) (fun ys => ys = T.parts) (fun pre => pre <+: T.parts) T.parts.length w := fun l J Jx W hW _ _ hY h0 =>
  all1_in F hd n h5 h6 hro l Bt n₀ p0 T J Jx hY W ((hW.cell (p := ⟨Bt, 0, none⟩) hBt).trans hc) (hT.below (hW.mono hn₀)) h0
end Go.Proofs.YtfckhkpheahgaaaDoor.Pc
