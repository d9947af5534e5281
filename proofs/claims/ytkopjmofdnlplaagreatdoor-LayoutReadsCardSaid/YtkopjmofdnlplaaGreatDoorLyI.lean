/-
  PROVED HERE: the memory while the document's view reads a block; the memory while the document's view reads as many of an item as there are to be; the contract of the document's view's block. Conditions: as each theorem states.
-/
import Derived.Test.YtkopjmofdnlplaaGreatDoorLyE
import Derived.Test.YtkopjmofdnlplaaGreatDoorHld
import Derived.Test.YtkopjmofdnlplaaGreatDoorTmU
namespace Go.Proofs.YtkopjmofdnlplaaGreatDoor.Ly
open Go.RowKit Go.Proofs.YtkopjmofdnlplaaGreatDoor.Tm
/-- The memory while a block is read: the parts so far lie in a list that the call owns. -/
structure LS (W0 W : World) (G : Nat) (mo : Option Nat) (tv : Value) (s : ByteArray) (v : Vw) (f : Nf) (K : Nat) (ov : Value) (out : List Nv) (w : World) : Prop where
  b0 : Below W0.heap.size W0 w
  V : VS G tv s v w
  g : Gr (GM G mo) W w
  N : NmW w mo f K
  own : OwnN w W.heap.size ov out
  aw : Aw W.heap.size ov.ownBlock w (AllN out)
  hG : G < W.heap.size
  hm : ∀ b, mo = some b → b < W.heap.size ∧ b ≠ G
  lo : W0.heap.size ≤ W.heap.size
  lG : W0.heap.size ≤ G
  lm : ∀ b, mo = some b → W0.heap.size ≤ b
section
variable {W0 W w w' : World} {G : Nat} {mo : Option Nat} {tv : Value} {s : ByteArray} {v v' : Vw} {f f' : Nf} {K K' : Nat} {ov : Value} {out : List Nv}
theorem gm_lt {B : Nat} (hG : G < B) (hm : ∀ b, mo = some b → b < B) : ∀ k, GM G mo k → k < B := by
  rintro k (e | e)
  · omega
  · exact hm k e.symm
theorem LS.start {f : Nf} (P : OP W0 G mo tv s v f K W) : LS W0 W G mo tv s v f K (.slice none 0 0) [] W := by
  refine ⟨P.b0, P.V, Gr.refl _ _, P.N, ownN_nil _ _, awN_nil _ _ _, P.V.lt, fun b hb => ⟨?_, (P.hm b hb).2⟩, P.b0.size, P.hG, fun b hb => (P.hm b hb).1⟩
  have := P.N.lt b hb
  omega
theorem LS.gr (h : LS W0 W G mo tv s v f K ov out w) (g : Gr (GM G mo) w w') (V' : VS G tv s v' w') (N' : NmW w' mo f' K') : LS W0 W G mo tv s v' f' K' ov out w' := by
  have hG := h.hG
  have hm := h.hm
  have hS := gm_lt hG fun b hb => (hm b hb).1
  refine ⟨Gr.to_below h.b0 g h.b0.size (fun k hk hS => ?_), V', h.g.trans g, N', OwnN.block h.own g.size (fun k hk => ?_), AwN.gr h.aw g hS, hG, hm, h.lo, h.lG, h.lm⟩
  · rcases hS with e | e
    · have := h.lG; omega
    · have := h.lm k e.symm; omega
  · have hk2 := World.ownsRow.lt h.own k hk
    exact g.block k hk2.2 (fun hS2 => by have := hS k hS2; omega)
theorem LS.below (h : LS W0 W G mo tv s v f K ov out w) (hb : Below w.heap.size w w') : LS W0 W G mo tv s v f K ov out w' := h.gr (Gr.below hb) (h.V.below hb) (h.N.below hb)
theorem LS.op (h : LS W0 W G mo tv s v f K ov out w) (kK : K ≤ v.k) (k : v.k ≤ 401) (kc : v.c = 0 → v.k ≤ 400) (p : v.p ≤ s.size) (hs : s.size ≤ 1000) : OP W0 G mo tv s v f K w :=
  ⟨h.b0, h.lG, fun b hb => ⟨h.lm b hb, (h.hm b hb).2⟩, h.V, h.N, kK, k, kc, p, hs⟩
theorem LS.whole (h : LS W0 W G mo tv s v f K ov out w) : NdsF W.heap.size w (out.map (·.1)) ov := nds_of h.own h.aw
/-- One part more. -/
theorem LS.app {w1 w2 w3 : World} {ov2 : Value} {p : Nv} (h : LS W0 W G mo tv s v f K ov out w) (g1 : Gr (GM G mo) w w1) (V1 : VS G tv s v' w1) (N1 : NmW w1 mo f' K') (hp : NdF w.heap.size w1 p.1 p.2)
    (g2 : Below w1.heap.size w1 w2) (g3 : w2.grownBy w3 ov.ownBlock) (ho : OwnN w3 W.heap.size ov2 (out ++ [p])) (hat : ov2.ownBlock = ov.ownBlock ∨ ov2.ownBlock = some w2.heap.size) : LS W0 W G mo tv s v' f' K' ov2 (out ++ [p]) w3 := by
  have h2 := (h.gr g1 V1 N1).below g2
  have hG := h.hG
  have hm := h.hm
  have lo := h.lo
  have hS := gm_lt hG fun b hb => (hm b hb).1
  have hge : ∀ k, ov.ownBlock = some k → W.heap.size ≤ k ∧ k < w2.heap.size := fun k hk => World.ownsRow.lt h2.own k hk
  have hne : ∀ k, k < W.heap.size → some k ≠ ov.ownBlock := fun k hk e => by have := (hge k e.symm).1; omega
  have s2 := h2.g.size
  have b2 := h2.b0
  have q2 := h2.g
  refine ⟨⟨g3.os.trans b2.os, g3.tape.trans b2.tape, g3.output.trans b2.output, Nat.le_trans b2.size g3.size, fun k hk => (g3.block k (by omega) (hne k (by omega))).trans (b2.block k hk)⟩, h2.V.block (g3.block G (by omega) (hne G hG)), ⟨g3.os.trans q2.os, g3.tape.trans q2.tape, g3.output.trans q2.output, Nat.le_trans q2.size g3.size, fun k hk hSk => (g3.block k (by omega) (hne k hk)).trans (q2.block k hk hSk)⟩, h2.N.block fun b hb => g3.block b (by have := (hm b hb).1; omega) (hne b (hm b hb).1), ho, ?_, hG, hm, lo, h.lG, h.lm⟩
  exact awN_next h.aw hp (fun k hk => (World.ownsRow.lt h.own k hk).2) h.g.size g1 hS g2 g3 hat
end
end Go.Proofs.YtkopjmofdnlplaaGreatDoor.Ly
namespace Go.Proofs.YtkopjmofdnlplaaGreatDoor.Ly
open Go.RowKit Go.Proofs.YtkopjmofdnlplaaGreatDoor.Tm
/-- The view's block, the names' map, and the list's part. -/
def GX (G : Nat) (mo : Option Nat) (X : Nat) : Nat → Prop := fun k => GM G mo k ∨ k = X
/-- The memory while a list is read: X holds its part. -/
structure MS (W0 W : World) (G : Nat) (mo : Option Nat) (tv : Value) (s : ByteArray) (X : Nat) (vs : List Value) (v : Vw) (f : Nf) (K : Nat) (kv : Value) (kids : List Nv) (w : World) : Prop where
  b0 : Below W0.heap.size W0 w
  V : VS G tv s v w
  g : Gr (GX G mo X) W w
  N : NmW w mo f K
  bx : NB w X vs
  own : OwnN w (X + 1) kv kids
  aw : Aw (X + 1) kv.ownBlock w (AllN kids)
  hX : W.heap.size = X + 1
  hG : G < X
  hm : ∀ b, mo = some b → b < X ∧ b ≠ G
  lo : W0.heap.size ≤ X
  lG : W0.heap.size ≤ G
  lm : ∀ b, mo = some b → W0.heap.size ≤ b
section
variable {W0 W w w' : World} {G X : Nat} {mo : Option Nat} {tv : Value} {s : ByteArray} {v v' : Vw} {f f' : Nf} {K K' : Nat} {kv : Value} {kids : List Nv} {vs : List Value}
theorem MS.gr (h : MS W0 W G mo tv s X vs v f K kv kids w) (g : Gr (GM G mo) w w') (V' : VS G tv s v' w') (N' : NmW w' mo f' K') : MS W0 W G mo tv s X vs v' f' K' kv kids w' := by
  have hG := h.hG
  have hm := h.hm
  have hS := gm_lt hG fun b hb => (hm b hb).1
  have lo := h.lo
  have hX := h.hX
  have sz := h.g.size
  refine ⟨Gr.to_below h.b0 g h.b0.size (fun k hk hS => ?_), V', h.g.trans ⟨g.os, g.tape, g.output, g.size, fun k hk hn => g.block k hk fun hs => hn (.inl hs)⟩, N', h.bx.gr g (fun hs => by have := hS X hs; omega), OwnN.block h.own g.size (fun k hk => ?_), AwN.gr h.aw g (fun k hk => by have := hS k hk; omega), hX, hG, hm, lo, h.lG, h.lm⟩
  · rcases hS with e | e
    · have := h.lG; omega
    · have := h.lm k e.symm; omega
  · have hk2 := World.ownsRow.lt h.own k hk
    exact g.block k hk2.2 (fun hS2 => by have := hS k hS2; omega)
theorem MS.below (h : MS W0 W G mo tv s X vs v f K kv kids w) (hb : Below w.heap.size w w') : MS W0 W G mo tv s X vs v f K kv kids w' := h.gr (Gr.below hb) (h.V.below hb) (h.N.below hb)
theorem MS.view (h : MS W0 W G mo tv s X vs v f K kv kids w) (hs : StV G tv s v' w w') : MS W0 W G mo tv s X vs v' f K kv kids w' := by
  refine h.gr (Gr.of hs.2 (gm_G G mo)) hs.1 (h.N.block fun b hb => ?_)
  have hlt := h.N.lt b hb
  exact hs.2.block b hlt (fun e2 => by injection e2 with e2; exact (h.hm b hb).2 e2)
theorem MS.op (h : MS W0 W G mo tv s X vs v f K kv kids w) (kK : K ≤ v.k) (k : v.k ≤ 401) (kc : v.c = 0 → v.k ≤ 400) (p : v.p ≤ s.size) (hs : s.size ≤ 1000) : OP W0 G mo tv s v f K w :=
  ⟨h.b0, h.lG, fun b hb => ⟨h.lm b hb, (h.hm b hb).2⟩, h.V, h.N, kK, k, kc, p, hs⟩
theorem MS.whole (h : MS W0 W G mo tv s X vs v f K kv kids w) : NdsF (X + 1) w (kids.map (·.1)) kv := nds_of h.own h.aw
/-- Cells of the list's part are written. -/
theorem MS.set (h : MS W0 W G mo tv s X vs v f K kv kids w) (j : Nat) (x : Value) : MS W0 W G mo tv s X (vs.set j x) v f K kv kids (w.setCell ⟨X, j, none⟩ x) := by
  have hG := h.hG
  have hm := h.hm
  have lo := h.lo
  have hX := h.hX
  have e : ∀ k, k ≠ X → (w.setCell ⟨X, j, none⟩ x).heap[k]? = w.heap[k]? := fun k hk => Below.heap_setCell _ _ _ _ hk
  have sz : (w.setCell ⟨X, j, none⟩ x).heap.size = w.heap.size := by simp [World.setCell]
  have b0 := h.b0
  have hg := h.g
  refine ⟨⟨b0.os, b0.tape, b0.output, by rw [sz]; exact b0.size, fun k hk => (e k (by omega)).trans (b0.block k hk)⟩, h.V.block (e G (by omega)), ⟨hg.os, hg.tape, hg.output, by rw [sz]; exact hg.size, fun k hk hS => (e k (fun h => hS (.inr h))).trans (hg.block k hk hS)⟩, h.N.block fun b hb => e b (by have := (hm b hb).1; omega), h.bx.set j x, OwnN.block h.own (by rw [sz]; exact Nat.le_refl _) (fun k hk => ?_), ?_, hX, hG, hm, lo, h.lG, h.lm⟩
  · have hk2 := World.ownsRow.lt h.own k hk
    exact e k (by omega)
  · intro w2 h2
    refine h.aw w2 fun k h3 h4 h5 => (h2 k h3 (by rw [sz]; exact h4) h5).trans (e k (by omega))
/-- One more of the item. -/
theorem MS.app {w1 w2 w3 : World} {kv2 : Value} {p : Nv} (h : MS W0 W G mo tv s X vs v f K kv kids w) (g1 : Gr (GM G mo) w w1) (V1 : VS G tv s v' w1) (N1 : NmW w1 mo f' K') (hp : NdF w.heap.size w1 p.1 p.2)
    (g2 : Below w1.heap.size w1 w2) (g3 : w2.grownBy w3 kv.ownBlock) (ho : OwnN w3 (X + 1) kv2 (kids ++ [p])) (hat : kv2.ownBlock = kv.ownBlock ∨ kv2.ownBlock = some w2.heap.size) : MS W0 W G mo tv s X vs v' f' K' kv2 (kids ++ [p]) w3 := by
  have h2 := (h.gr g1 V1 N1).below g2
  have hG := h.hG
  have hm := h.hm
  have lo := h.lo
  have hX := h.hX
  have hS := gm_lt hG fun b hb => (hm b hb).1
  have hge : ∀ k, kv.ownBlock = some k → X + 1 ≤ k ∧ k < w2.heap.size := fun k hk => World.ownsRow.lt h2.own k hk
  have hne : ∀ k, k < X + 1 → some k ≠ kv.ownBlock := fun k hk e => by have := (hge k e.symm).1; omega
  have s2 := h2.g.size
  have b2 := h2.b0
  have q2 := h2.g
  have s0 := h.g.size
  refine ⟨⟨g3.os.trans b2.os, g3.tape.trans b2.tape, g3.output.trans b2.output, Nat.le_trans b2.size g3.size, fun k hk => (g3.block k (by omega) (hne k (by omega))).trans (b2.block k hk)⟩, h2.V.block (g3.block G (by omega) (hne G (by omega))), ⟨g3.os.trans q2.os, g3.tape.trans q2.tape, g3.output.trans q2.output, Nat.le_trans q2.size g3.size, fun k hk hSk => (g3.block k (by omega) (hne k (by omega))).trans (q2.block k hk hSk)⟩, h2.N.block fun b hb => g3.block b (by have := (hm b hb).1; omega) (hne b (by have := (hm b hb).1; omega)), ?_, ho, ?_, hX, hG, hm, lo, h.lG, h.lm⟩
  · exact (g3.block X h2.bx.lt (hne X (by omega))).trans h2.bx
  · exact awN_next h.aw hp (fun k hk => (World.ownsRow.lt h.own k hk).2) (by omega) g1 (fun k hk => by have := hS k hk; omega) g2 g3 hat
/-- The list's part is laid. -/
theorem LS.many {wr w1 : World} {ov : Value} {out : List Nv} (h : LS W0 W G mo tv s v f K ov out wr) (hb : Below wr.heap.size wr w1) (hX : w1.heap.size = X + 1) (hle : wr.heap.size ≤ X) (hbx : NB w1 X vs) : MS W0 w1 G mo tv s X vs v f K (.slice none 0 0) [] w1 := by
  have h1 := h.below hb
  have hG := h.hG
  have hm := h.hm
  have s0 := h.g.size
  have lo := h.lo
  exact ⟨h1.b0, h1.V, Gr.refl _ _, h1.N, hbx, ownN_nil _ _, awN_nil _ _ _, hX, by omega, fun b hb => ⟨by have := (hm b hb).1; omega, (hm b hb).2⟩, by omega, h.lG, h.lm⟩
theorem MS.gm {wr : World} (h : MS W0 W G mo tv s X vs v f K kv kids w) (hb : Below wr.heap.size wr W) (hle : wr.heap.size ≤ X) : Gr (GM G mo) wr w :=
  Gr.low (Gr.below (S := GM G mo) hb) h.g fun k hk hS => by
    rcases hS with e | e
    · exact e
    · omega
end
theorem ownN_append_step {w : World} {ops : Array Oper} {o : Oper} {a : Act} {C : Act → World → Prop} {Q : Exit → Act → World → Prop} {F : Prop} (hgd : o.guard = none) (s x : Operand)
    (ho : o.op = .call { callee := .builtin .append, args := #[s, x], argTypes := #[25, 25] })
    (B : Nat) (v : Value) (l : List Nv) (hs : a.eval s = v) (hown : OwnN w B v l)
    (g c : Nat) (e : Nv) (hx : a.eval x = .slice (some ⟨g, 0, none⟩) 1 c) (hnew : w.heap[g]? = some (.cells e.vals.toArray 27 (0, 0)))
    (h1 : e.2.oneCell' = true)
    (hlen : l.length + 1 ≤ 1000000) (hbase : B ≤ w.heap.size)
    (h : ∀ v' w', OwnN w' B v' (l ++ [e]) → w.grownBy w' v.ownBlock → Below B w w' → (v'.ownBlock = v.ownBlock ∨ v'.ownBlock = some w.heap.size) → C (a.put o.dst v') w') :
    if Region.wanted o (yielded ops a.tmps) = true then Oper.wp Tryz.prog o a w C Q else F := by
  have hw : Region.wanted o (yielded ops a.tmps) = true := by simp [Region.wanted, hgd]
  rw [if_pos hw]
  obtain ⟨i, hi, hz0, hz1, hz2⟩ := info_parts infoNode
  have hl : e.vals.length = 7 := nv_len e
  obtain ⟨v', w', hr, h2, h3, _, h5⟩ := run_append_own_at (P := Tryz.prog) w B 25 o.type 27 i _ 7 88 Tryz.underlying25 hi hz0 hz1 hz2 rfl (by decide) v l.length (nvCells l) hown ⟨g, 0, none⟩ 1 c e.vals (by rw [hl]) (by
    intro j u hu
    rw [Addr.add_mid, Nat.zero_add]
    unfold World.cell?
    rw [hnew]
    simpa using hu) (by
    intro u hu
    obtain ⟨⟨nm, k, a, sz, n, t, kids⟩, kv⟩ := e
    simp only [Nv.vals, ndVals, List.mem_cons, List.mem_nil_iff, or_false] at hu
    rcases hu with rfl | rfl | rfl | rfl | rfl | rfl | rfl <;> first | rfl | exact h1) (by unfold maxLen; omega) (by omega) hbase
  unfold Oper.wp execOp
  simp only [ho, resolve, invoke, builtin, Sem.run_bind, Sem.run_pure, Result.andThen_ok, List.map_toArray, List.map_cons, List.map_nil, hs, hx, hr]
  refine h v' w' ?_ h3 ((Below.refl B w).grown h3 hbase (fun k hk => (World.ownsRow.lt hown k hk).1)) h5
  unfold OwnN
  rw [List.length_append, ← nvCells_snoc]
  exact h2
end Go.Proofs.YtkopjmofdnlplaaGreatDoor.Ly
namespace Go.Proofs.YtkopjmofdnlplaaGreatDoor.Ly
open Go.RowKit Go.Proofs.YtkopjmofdnlplaaGreatDoor.Tm
/-- The bounds while a block is read. -/
def Bnd (s : ByteArray) (K k K' n : Nat) (v : Vw) : Prop := K' ≤ K + (v.k - k) ∧ k ≤ v.k ∧ v.k ≤ 401 ∧ (v.c = 0 → v.k ≤ 400) ∧ v.p ≤ s.size ∧ n ≤ v.k
/-- The parts so far, and the rest of the block. -/
def OutR (W0 W : World) (G : Nat) (mo : Option Nat) (tv : Value) (s : ByteArray) (ts : List Ty) (m : Nat) (l : List It) (K k : Nat) (R : List Nd × Vw × Nf) (j : Nat) (ov : Value) (wr : World) : Prop :=
  ∃ (v : Vw) (f' : Nf) (K' : Nat) (out : List Nv), Hid (LS W0 W G mo tv s v f' K' ov out wr) ∧ Hid (R = blkG (oneD ts s m) (l.drop j) (out.map (·.1)) v f') ∧ Hid (Bnd s K k K' out.length v) ∧ (∃ a n c, ov = .slice a n c)
section
variable {W0 : World} {ts : List Ty} {tv : Value} {s : ByteArray} {m : Nat}
theorem blk_next {one : One} {x : It} {l : List It} {j : Nat} {out : List Nd} {v : Vw} {f : Nf} (h : j < l.length) (hx : l[j] = x) (hv : v.c = 0) : blkG one (l.drop j) out v f = blkG one (l.drop (j + 1)) (out ++ [(partG one x v f).1]) (partG one x v f).2.1 (partG one x v f).2.2 := by
  subst hx
  rw [List.drop_eq_getElem_cons h, blkG, if_neg (by simp [hv])]
theorem blk_halt {one : One} {l : List It} {j : Nat} {out : List Nd} {v : Vw} {f : Nf} (h : j < l.length) (hv : ¬ v.c = 0) : blkG one (l.drop j) out v f = ([], v, f) := by
  rw [List.drop_eq_getElem_cons h, blkG, if_pos hv]
theorem numD_bds (wd od : Int) (sg : Bool) (t : ByteArray) (h : wd = 1 ∨ wd = 2 ∨ wd = 4 ∨ wd = 8) : -9223372036854775808 ≤ numV wd od sg t numD ∧ numV wd od sg t numD ≤ 9223372036854775807 := by
  have hb : ∀ n : Int, -9223372036854775808 ≤ wrap64 n ∧ wrap64 n ≤ 9223372036854775807 := fun n => by unfold wrap64; omega
  unfold numV
  split
  · omega
  · unfold numD
    split
    · generalize ((uD wd od t : Nat) : Int) = u
      rcases h with rfl | rfl | rfl | rfl
      · rw [Ws.sgn1]; split <;> omega
      · rw [Ws.sgn2]; split <;> omega
      · rw [Ws.sgn4]; split <;> omega
      · rw [Ws.sgn8]; exact hb u
    · exact hb _
theorem oneD_bds {x : It} {v : Vw} {f : Nf} (hk : x.kind = 1) (hw : x.width = 1 ∨ x.width = 2 ∨ x.width = 4 ∨ x.width = 8) : -9223372036854775808 ≤ (oneD ts s m x v f).1.n ∧ (oneD ts s m x v f).1.n ≤ 9223372036854775807 := by
  cases m with
  | zero => simp [oneD, oneV, Nd.n]
  | succ m =>
    unfold oneD oneV oneG
    simp only
    split
    · simp [Nd.n]
    · first | exact numD_bds _ _ _ _ hw | (rw [if_pos hk]; exact numD_bds _ _ _ _ hw)
theorem outR_app {W w0 w1 w2 w3 : World} {G k K K' K1 j : Nat} {mo : Option Nat} {l : List It} {R : List Nd × Vw × Nf} {v v1 : Vw} {f' f1 : Nf} {ov ov2 : Value} {out : List Nv} {p : Nv} (S : LS W0 W G mo tv s v f' K' ov out w0)
    (hr : R = blkG (oneD ts s m) (l.drop (j + 1)) (out.map (·.1) ++ [p.1]) v1 f1) (g1 : Gr (GM G mo) w0 w1) (V1 : VS G tv s v1 w1) (N1 : NmW w1 mo f1 K1) (hp : NdF w0.heap.size w1 p.1 p.2) (hb : Bnd s K k K1 (out.length + 1) v1)
    (g2 : Below w1.heap.size w1 w2) (g3 : w2.grownBy w3 ov.ownBlock) (ho : OwnN w3 W.heap.size ov2 (out ++ [p])) (hat : ov2.ownBlock = ov.ownBlock ∨ ov2.ownBlock = some w2.heap.size) : OutR W0 W G mo tv s ts m l K k R (j + 1) ov2 w3 := by
  obtain ⟨a, c, e⟩ := ho.len
  exact ⟨v1, f1, K1, out ++ [p], Lib.hid (S.app g1 V1 N1 hp g2 g3 ho hat), Lib.hid (by rw [List.map_append]; exact hr), Lib.hid (by rw [List.length_append]; exact hb), _, _, _, e⟩
set_option maxRecDepth 100000 in
set_option maxHeartbeats 4000000 in
theorem block_any (H1 : OneC W0 ts tv s m) : BlkC W0 ts tv s m := by
  intro G mo σ f K W l lv P hl hw hm hmo h16
  have HMo := Lib.hid hmo
  clear hmo
  have HI := Lib.hid hl
  obtain ⟨pa, ca, rfl, hla, ra⟩ := hl
  have HH := Lib.hid H1
  have HW := Lib.hid hw
  have HP := Lib.hid P
  obtain ⟨R, hR⟩ : ∃ R, blkD ts s m l σ f = R := ⟨_, rfl⟩
  rw [hR]
  have HR := Lib.hid (show R = blkG (oneD ts s m) (l.drop 0) (([] : List Nv).map (·.1)) σ f from hR.symm)
  have S0 := Lib.hid (LS.start P)
  have Hs := Lib.hid P.hs
  have HK := Lib.hid P.kK
  have B0 := Lib.hid (show Bnd s K σ.k K ([] : List Nv).length σ from ⟨by omega, Nat.le_refl _, P.k, P.kc, P.p, Nat.zero_le _⟩)
  obtain ⟨k0, hk0⟩ : ∃ k, σ.k = k := ⟨_, rfl⟩
  rw [hk0] at B0 hm HK ⊢
  have Hm := Lib.hid hm
  clear P ra hw H1 hR hm hk0 HP
  go_enter Tryz.func76, Tryz.ntmps76
  go_wp2_with fail
  go_loopw [7, 15] (fun t i wr => ∃ (j : Nat), i = .int .i64 (j : Nat) ∧ j ≤ l.length ∧ OutR W0 W G mo tv s ts m l K k0 R j t wr) (fun _ i _ => l.length - (intOf i).toNat)
  case atStart => exact ⟨0, rfl, Nat.zero_le _, σ, f, K, [], S0, HR, B0, _, _, _, rfl⟩
  case round =>
    clear S0 HR B0
    obtain ⟨j, rfl, hj, v, f', K', out, S1, HR1, hb, -⟩ := hrel
    obtain ⟨a, c, rfl⟩ := S1.out.own.len
    by_cases hlt : j < l.length
    · obtain ⟨b, o, cv, iv, rfl, hcx, hit⟩ := its_at HI.out j hlt
      obtain ⟨⟨p8, rfl⟩, a12, c12, rfl⟩ := it_forms hit
      have HWx := Lib.hid (wfL_mem HW.out l[j] (List.getElem_mem hlt))
      have HX := Lib.hid hit
      obtain ⟨x, hx⟩ : ∃ x, l[j] = x := ⟨_, rfl⟩
      have hxl := Lib.hid hx
      rw [hx] at hcx HX HWx
      obtain ⟨n12, hn12⟩ : ∃ n, x.items.length = n := ⟨_, rfl⟩
      rw [hn12] at hcx HX
      clear hit hx hn12
      have i1 : (0 : Int) ≤ (j : Int) := by omega
      have i2 : (j : Int) < (l.length : Int) := by omega
      have z0 : wr.cell? ⟨b, o + j * 13, none⟩ = some (.int .i64 x.kind) := keepCell S1.out.b0 (hcx 0 _ rfl)
      have z1 : wr.cell? ⟨b, o + j * 13 + 1, none⟩ = some (.int .i64 (x.at_ : Nat)) := keepCell S1.out.b0 (hcx 1 _ rfl)
      have z2 : wr.cell? ⟨b, o + j * 13 + 2, none⟩ = some (.string x.name) := keepCell S1.out.b0 (hcx 2 _ rfl)
      have z3 : wr.cell? ⟨b, o + j * 13 + 3, none⟩ = some (.string x.type) := keepCell S1.out.b0 (hcx 3 _ rfl)
      have z4 : wr.cell? ⟨b, o + j * 13 + 4, none⟩ = some (.int .i64 x.width) := keepCell S1.out.b0 (hcx 4 _ rfl)
      have z5 : wr.cell? ⟨b, o + j * 13 + 5, none⟩ = some (.int .i64 x.order) := keepCell S1.out.b0 (hcx 5 _ rfl)
      have z6 : wr.cell? ⟨b, o + j * 13 + 6, none⟩ = some (.bool x.signed) := keepCell S1.out.b0 (hcx 6 _ rfl)
      have z7 : wr.cell? ⟨b, o + j * 13 + 7, none⟩ = some (.bool x.many) := keepCell S1.out.b0 (hcx 7 _ rfl)
      have z8 : wr.cell? ⟨b, o + j * 13 + 8, none⟩ = some (.pointer p8) := keepCell S1.out.b0 (hcx 8 _ rfl)
      have z9 : wr.cell? ⟨b, o + j * 13 + 9, none⟩ = some (.int .i64 x.rule) := keepCell S1.out.b0 (hcx 9 _ rfl)
      have z10 : wr.cell? ⟨b, o + j * 13 + 10, none⟩ = some (.string x.first) := keepCell S1.out.b0 (hcx 10 _ rfl)
      have z11 : wr.cell? ⟨b, o + j * 13 + 11, none⟩ = some (.string x.last) := keepCell S1.out.b0 (hcx 11 _ rfl)
      have z12 : wr.cell? ⟨b, o + j * 13 + 12, none⟩ = some (.slice a12 n12 c12) := keepCell S1.out.b0 (hcx 12 _ rfl)
      clear hcx
      go_upto_region 5 with fail
      have bA : Below wr.heap.size wr (wr.alloc (.cells #[.int .i64 x.kind, .int .i64 (x.at_ : Nat), .string x.name, .string x.type, .int .i64 x.width, .int .i64 x.order, .bool x.signed, .bool x.many, .pointer p8, .int .i64 x.rule, .string x.first, .string x.last, .slice a12 n12 c12] 78)) := (Below.refl _ _).alloc (Nat.le_refl _) _
      have iA : IB (wr.alloc (.cells #[.int .i64 x.kind, .int .i64 (x.at_ : Nat), .string x.name, .string x.type, .int .i64 x.width, .int .i64 x.order, .bool x.signed, .bool x.many, .pointer p8, .int .i64 x.rule, .string x.first, .string x.last, .slice a12 n12 c12] 78)) wr.heap.size (itVals x (.pointer p8) (.slice a12 n12 c12)) := IB.new _ _
      have sA : (wr.alloc (.cells #[.int .i64 x.kind, .int .i64 (x.at_ : Nat), .string x.name, .string x.type, .int .i64 x.width, .int .i64 x.order, .bool x.signed, .bool x.many, .pointer p8, .int .i64 x.rule, .string x.first, .string x.last, .slice a12 n12 c12] 78)).heap.size = wr.heap.size + 1 := by simp
      generalize (wr.alloc (.cells #[.int .i64 x.kind, .int .i64 (x.at_ : Nat), .string x.name, .string x.type, .int .i64 x.width, .int .i64 x.order, .bool x.signed, .bool x.many, .pointer p8, .int .i64 x.rule, .string x.first, .string x.last, .slice a12 n12 c12] 78)) = w1 at *
      obtain ⟨I, hI⟩ : ∃ I, wr.heap.size = I := ⟨_, rfl⟩
      have HIe := Lib.hid hI
      rw [hI] at iA sA ⊢
      have S2 := Lib.hid (S1.out.below bA)
      have BA := Lib.hid bA
      have IA := Lib.hid iA
      have SA := Lib.hid sA
      have c4 := S2.out.V.c4
      have c5 := S2.out.V.c5
      have CI := Lib.hid (is_any v.c v.a w1)
      clear bA iA sA hI z0 z1 z2 z3 z4 z5 z6 z7 z8 z9 z10 z11 z12
      by_cases hc : v.c = 0
      · have e0 : (v.c == 0) = true := by simpa using hc
        rw [e0] at CI
        have HR2 := Lib.hid (HR1.out.trans (blk_next hlt hxl.out hc))
        have HC := Lib.hid hc
        clear HR1 hc e0
        go_wp2_with fail
        refine (CI.out).mono ?_; rintro e' w2 ⟨rfl, hb2⟩
        have S3 := Lib.hid (S2.out.below hb2)
        have BB := Lib.hid (BA.out.trans (hb2.mono BA.out.size))
        have IB2 := Lib.hid (IB.gr IA.out (Gr.below (S := fun _ => False) hb2) id)
        have SB := Lib.hid (show I + 1 ≤ w2.heap.size by have := SA.out; have := hb2.size; omega)
        clear S2 CI c4 c5 hb2 IA BA SA
        obtain ⟨mn, hmn⟩ : ∃ b, x.many = b := ⟨_, rfl⟩
        have t7 : w2.cell? ⟨I, 7, none⟩ = some (.bool mn) := by rw [← hmn]; exact IB2.out.cell 7
        cases mn with
        | true =>
          have hW1 := (wfI_iff _).1 HWx.out
          have t2 : w2.cell? ⟨I, 2, none⟩ = some (.string x.name) := IB2.out.cell 2
          have c2 := S3.out.V.c2
          have hGl := S3.out.V.lt
          have hIl : I < w2.heap.size := by have := SB.out; omega
          have M0 := Lib.hid (show MS W0 ((w2.alloc (.cells #[.string x.name, .int .i64 9, .int .i64 (v.p : Nat), .int .i64 0, .int .i64 0, .string ⟨#[]⟩, .slice none 0 0] 27)).drew) G mo tv s w2.heap.size [.string x.name, .int .i64 9, .int .i64 (v.p : Nat), .int .i64 0, .int .i64 0, .string ⟨#[]⟩, .slice none 0 0] v f' K' (.slice none 0 0) [] ((w2.alloc (.cells #[.string x.name, .int .i64 9, .int .i64 (v.p : Nat), .int .i64 0, .int .i64 0, .string ⟨#[]⟩, .slice none 0 0] 27)).drew) from
            S3.out.many (((Below.refl _ _).alloc (Nat.le_refl _) _).drew) (by simp) (Nat.le_refl _) (NB.new _ _))
          have HB0 := Lib.hid (show Below w2.heap.size w2 ((w2.alloc (.cells #[.string x.name, .int .i64 9, .int .i64 (v.p : Nat), .int .i64 0, .int .i64 0, .string ⟨#[]⟩, .slice none 0 0] 27)).drew) from ((Below.refl _ _).alloc (Nat.le_refl _) _).drew)
          go_upto_region 8 with fail
          go_cut [10] (fun v10 wx => v10 = .pointer (some ⟨w2.heap.size, 0, none⟩) ∧ ∃ wm, Hid (Below w2.heap.size w2 wm) ∧ Hid (MS W0 wm G mo tv s w2.heap.size [.string x.name, .int .i64 9, .int .i64 (v.p : Nat), .int .i64 0, .int .i64 0, .string ⟨#[]⟩, .slice none 0 0] v f' K' (.slice none 0 0) [] wx))
          case first =>
            go_region
            all_goals
              go_wp2_with fail
              go_meet
              exact ⟨rfl, _, HB0, M0⟩
          case rest =>
            clear M0 HB0 t2 c2 hGl t7
            obtain ⟨rfl, wm, hbm, hms⟩ := hcut
            have HBm := Lib.hid hbm.out
            have M1 := Lib.hid hms.out
            clear hbm hms
            have hxs := Lib.hid (show itVals x (.pointer p8) (.slice a12 n12 c12) = [.int .i64 x.kind, .int .i64 (x.at_ : Nat), .string x.name, .string x.type, .int .i64 x.width, .int .i64 x.order, .bool x.signed, .bool true, .pointer p8, .int .i64 x.rule, .string x.first, .string x.last, .slice a12 n12 c12] by unfold itVals; rw [hmn])
            have HI2 := Lib.hid (fun (w' : World) (h : Gr (GM G mo) w2 w') => IB.gr IB2.out h (fun hk => by have h1 := gm_lt S1.out.hG (fun b hb => (S1.out.hm b hb).1) I hk; have h2 := S1.out.g.size; have h3 := HIe.out; omega))
            rw [hxs.out] at HI2
            have sX := SB.out
            obtain ⟨X, hX⟩ : ∃ X, w2.heap.size = X := ⟨_, rfl⟩
            have HX2 := Lib.hid hX
            rw [hX] at M1 sX ⊢
            clear hX
            obtain ⟨b1, b2, b3, b4, b5, b6⟩ := hb.out
            have kK := HK.out
            have hk4 := b4 HC.out
            have C := Lib.hid (begin_any M1.out.V (by omega))
            have hB := begV_facts v
            have HR3 := HR2
            have hpt : partG (oneD ts s m) x v f' = listG (oneD ts s m) x v f' := by unfold partG; rw [if_pos hmn]
            rw [hpt] at HR3
            unfold listG at HR3
            clear hpt HR2
            obtain ⟨σ1, hσ1⟩ : ∃ q, begV v = q := ⟨_, rfl⟩
            rw [hσ1] at C hB HR3
            clear hσ1
            go_wp2_with fail
            refine (C.out).mono ?_; rintro e' w3 ⟨rfl, hst⟩
            have M2 := Lib.hid (M1.out.view hst)
            clear C M1 hst
            obtain ⟨e, he⟩ : ∃ e, x.count = some e := Option.ne_none_iff_exists'.1 (hW1.1.cnt (.inr (.inr hmn)))
            have hex : ExAt W0 e (.pointer p8) := by
              have := ((itAt_iff _ _ _ _).1 HX.out).1
              rw [he] at this
              exact this
            have hok := (hW1.1.sz e he).2
            rw [he] at HR3
            simp only [evO] at HR3
            have t8 : w3.cell? ⟨I, 8, none⟩ = some (.pointer p8) := (HI2.out _ (M2.out.gm HBm.out (by have := HX2.out; omega))).cell 8
            have hNm := M2.out.N.nms
            have hbd := evalF_bds (fun z hz => (hNm _ (Below.refl _ _) z hz).2) e hok
            have C := Lib.hid (count_any M2.out.V e (.pointer p8) mo f' hok (ExAt.below M2.out.b0 e _ hex) hNm)
            have hC := cntV_facts (evalF f' e) σ1
            obtain ⟨σ2, hσ2⟩ : ∃ v, cntV (evalF f' e) σ1 = v := ⟨_, rfl⟩
            obtain ⟨n, hn⟩ : ∃ n, (evalF f' e).1 = n := ⟨_, rfl⟩
            rw [hσ2] at C hC HR3
            rw [hn] at C hbd HR3
            clear hσ2 hn hok hex he hNm
            have hp2 : σ2.p ≤ s.size := by rw [hC.1, hB.1]; exact b5
            have hk2 : σ2.k = v.k + 1 := by rw [hC.2.1, hB.2.1]
            go_wp2_with fail
            refine (C.out).mono ?_; rintro e' w4 ⟨rfl, hst⟩
            have M3 := Lib.hid (M2.out.view hst)
            clear C M2 hst t8
            go_upto_region 11 with fail
            go_upto_if 42 with fail
            go_cut [] (fun wx => Hid (MS W0 wm G mo tv s X [.string x.name, .int .i64 9, .int .i64 (v.p : Nat), .int .i64 0, .int .i64 0, .string ⟨#[]⟩, .slice none 0 0] (lowV n σ2) f' K' (.slice none 0 0) [] wx))
            case first =>
              by_cases hn : n < 0
              · have el : lowV n σ2 = wrV σ2 3 := if_pos hn
                have EL := Lib.hid el
                have C := Lib.hid (wrong_any M3.out.V 3)
                clear el
                go_wp2_with fail
                refine (C.out).mono ?_; rintro e' w5 ⟨rfl, hst⟩
                have M4 := Lib.hid (show MS W0 wm G mo tv s X [.string x.name, .int .i64 9, .int .i64 (v.p : Nat), .int .i64 0, .int .i64 0, .string ⟨#[]⟩, .slice none 0 0] (lowV n σ2) f' K' (.slice none 0 0) [] w5 by rw [EL.out]; exact M3.out.view hst)
                go_wp2_with fail
                go_meet
                exact M4
              · have el : lowV n σ2 = σ2 := if_neg hn
                have M4 := Lib.hid (show MS W0 wm G mo tv s X [.string x.name, .int .i64 9, .int .i64 (v.p : Nat), .int .i64 0, .int .i64 0, .string ⟨#[]⟩, .slice none 0 0] (lowV n σ2) f' K' (.slice none 0 0) [] w4 by rw [el]; exact M3.out)
                clear el
                go_wp2_with fail
                go_meet
                exact M4
            case rest =>
              clear M3
              have hL : (lowV n σ2).p = σ2.p ∧ (lowV n σ2).k = σ2.k ∧ ((lowV n σ2).c = 0 → σ2.c = 0) := by
                unfold lowV
                split
                · exact ⟨(wrV_facts σ2 3 (by decide)).1, (wrV_facts σ2 3 (by decide)).2.1, fun e => absurd e (wrV_facts σ2 3 (by decide)).2.2⟩
                · exact ⟨rfl, rfl, fun e => e⟩
              obtain ⟨σ4, hσ4⟩ : ∃ q, lowV n σ2 = q := ⟨_, rfl⟩
              rw [hσ4] at hcut HR3 hL
              have M4 := Lib.hid hcut.out
              have HD0 := Lib.hid (show Bnd s K k0 K' 0 σ4 ∧ v.k + 1 ≤ σ4.k from ⟨⟨by omega, by omega, by omega, fun e => by have := hC.2.2 (hL.2.2 e); have := (hB.2.2 this).1; omega, by omega, by omega⟩, by omega⟩)
              obtain ⟨Q, hQ⟩ : ∃ Q, manyG (oneD ts s m) x n.toNat [] σ4 f' = Q := ⟨_, rfl⟩
              rw [hQ] at HR3
              have HQ := Lib.hid (show Q = manyG (oneD ts s m) x n.toNat (([] : List Nv).map (·.1)) σ4 f' from hQ.symm)
              have HN := Lib.hid hbd
              clear hcut hσ4 hQ hL hC hB hbd hp2 hk2 b1 b2 b3 b4 b5 b6 hk4 kK
              go_upto_block 2 with fail
              go_cut [] (fun wx => ∃ (v1 : Vw) (f1 : Nf) (K1 : Nat) (kv : Value) (kids : List Nv), Hid (MS W0 wm G mo tv s X [.string x.name, .int .i64 9, .int .i64 (v.p : Nat), .int .i64 0, .int .i64 0, .string ⟨#[]⟩, kv] v1 f1 K1 kv kids wx) ∧ Hid (Q = (kids.map (·.1), v1, f1)) ∧ Hid (Bnd s K k0 K1 kids.length v1 ∧ v.k + 1 ≤ v1.k))
              case first =>
                go_wp2_with fail
                go_loopw [11] (fun t wr2 => ∃ (n1 : Int) (v1 : Vw) (f1 : Nf) (K1 : Nat) (kv : Value) (kids : List Nv), t = .int .i64 n1 ∧ -9223372036854775808 ≤ n1 ∧ n1 ≤ 9223372036854775807 ∧ Hid (MS W0 wm G mo tv s X [.string x.name, .int .i64 9, .int .i64 (v.p : Nat), .int .i64 0, .int .i64 0, .string ⟨#[]⟩, kv] v1 f1 K1 kv kids wr2) ∧ Hid (Q = manyG (oneD ts s m) x n1.toNat (kids.map (·.1)) v1 f1) ∧ Hid (Bnd s K k0 K1 kids.length v1 ∧ v.k + 1 ≤ v1.k)) (fun t _ => (intOf t).toNat)
                case atStart => exact ⟨n, σ4, f', K', _, [], rfl, HN.out.1, HN.out.2, M4, HQ, HD0⟩
                case round =>
                  clear M4 HQ HD0
                  obtain ⟨n1, v1, f1, K1, kv, kids, rfl, hn1, hn2, M5, HQ, HD⟩ := hrel
                  by_cases hp : 0 < n1
                  · have CI := Lib.hid (is_any v1.c v1.a wr)
                    have c4 := M5.out.V.c4
                    have c5 := M5.out.V.c5
                    obtain ⟨q, hq⟩ : ∃ q : Nat, n1 = (q : Int) + 1 := ⟨(n1 - 1).toNat, by omega⟩
                    have hq1 : n1.toNat = q + 1 := by omega
                    rw [hq1] at HQ
                    have hwr : wrap64 (n1 - 1) = (q : Int) := by unfold wrap64; omega
                    have hqq : n1 - 1 = (q : Int) := by omega
                    by_cases hc1 : v1.c = 0
                    · have e0 : (v1.c == 0) = true := by simpa using hc1
                      rw [e0] at CI
                      have HQ2 := Lib.hid (HQ.out.trans (if_neg (by simp [hc1])))
                      have HC1 := Lib.hid hc1
                      clear HQ hc1 e0
                      go_wp2_with fail
                      refine (CI.out).mono ?_; rintro e' w6 ⟨rfl, hb6⟩
                      have M6 := Lib.hid (M5.out.below hb6)
                      clear M5 CI c4 c5 hb6
                      go_upto_region 15 with fail
                      have MD := Lib.hid (M6.out.below (Below.refl _ _).drew)
                      have hI15 := HI2.out _ (MD.out.gm HBm.out (by have := HX2.out; omega))
                      have c6 : w6.drew.cell? ⟨X, 6, none⟩ = some kv := MD.out.bx.cell 6
                      obtain ⟨⟨d1, d2, d3, d4, d5, d6⟩, d7⟩ := HD.out
                      have kK := HK.out
                      have C := Lib.hid (HH.out G mo v1 f1 K1 w6.drew x (.pointer p8) (.slice a12 n12 c12) (MD.out.op (by omega) d3 d4 d5 Hs.out) HC1.out HX.out HWx.out (by have := Hm.out; omega) (.inl HMo.out))
                      rw [hxs.out] at C
                      obtain ⟨⟨⟨nm3, kd3, at3, sz3, n3, tx3, kl3⟩, σ3, f3⟩, hq3⟩ : ∃ q, oneD ts s m x v1 f1 = q := ⟨_, rfl⟩
                      have HQ3 := Lib.hid (show Q = manyG (oneD ts s m) x q (kids.map (·.1) ++ [.mk nm3 kd3 at3 sz3 n3 tx3 kl3]) σ3 f3 by rw [HQ2.out, hq3])
                      rw [hq3] at C
                      have MO := Lib.hid MD.out.own
                      clear hq3 HQ2 M6
                      refine Hld.run_region (fun w' => w'.cell? ⟨X, 6, none⟩ = some kv ∧ IB w' I [.int .i64 x.kind, .int .i64 (x.at_ : Nat), .string x.name, .string x.type, .int .i64 x.width, .int .i64 x.order, .bool x.signed, .bool true, .pointer p8, .int .i64 x.rule, .string x.first, .string x.last, .slice a12 n12 c12]) 9 (by kernel_rfl) ?_
                      have SH : w6.drew.cell? ⟨X, 6, none⟩ = some kv ∧ IB w6.drew I [.int .i64 x.kind, .int .i64 (x.at_ : Nat), .string x.name, .string x.type, .int .i64 x.width, .int .i64 x.order, .bool x.signed, .bool true, .pointer p8, .int .i64 x.rule, .string x.first, .string x.last, .slice a12 n12 c12] := ⟨c6, hI15⟩
                      clear c6 hI15
                      generalize w6.drew = w7 at *
                      refine Hld.Run.take (i := 0) (d := 11) (v := .pointer (some ⟨X, 6, none⟩)) rfl (by kernel_rfl) (by kernel_rfl) (by kernel_rfl) (by kernel_rfl) (by kernel_rfl) (by kernel_rfl) (fun _ _ _ h => h) (Or.inl ⟨by rfl, ?_⟩) SH ?_
                      · intro w' hSw
                        obtain ⟨h1, h2⟩ := hSw
                        go_simp
                      try simp only [Act.put]
                      refine Hld.Run.take (i := 1) (d := 11) (v := kv) rfl (by kernel_rfl) (by kernel_rfl) (by kernel_rfl) (by kernel_rfl) (by kernel_rfl) (by kernel_rfl) (fun _ _ _ h => h) (Or.inl ⟨by rfl, ?_⟩) SH ?_
                      · intro w' hSw
                        obtain ⟨h1, h2⟩ := hSw
                        go_simp
                      try simp only [Act.put]
                      refine Hld.Run.take (i := 2) (d := 11) (v := .pointer (some ⟨G, 0, none⟩)) rfl (by kernel_rfl) (by kernel_rfl) (by kernel_rfl) (by kernel_rfl) (by kernel_rfl) (by kernel_rfl) (fun _ _ _ h => h) (Or.inl ⟨by rfl, ?_⟩) SH ?_
                      · intro w' hSw
                        obtain ⟨h1, h2⟩ := hSw
                        go_simp
                      try simp only [Act.put]
                      refine Hld.Run.take (i := 3) (d := 11) (v := .agg #[.int .i64 x.kind, .int .i64 (x.at_ : Nat), .string x.name, .string x.type, .int .i64 x.width, .int .i64 x.order, .bool x.signed, .bool true, .pointer p8, .int .i64 x.rule, .string x.first, .string x.last, .slice a12 n12 c12]) rfl (by kernel_rfl) (by kernel_rfl) (by kernel_rfl) (by kernel_rfl) (by kernel_rfl) (by kernel_rfl) (fun _ _ _ h => h) (Or.inl ⟨by rfl, ?_⟩) SH ?_
                      · intro w' hSw
                        obtain ⟨h1, h2⟩ := hSw
                        have y0 : w'.cell? ⟨I, 0, none⟩ = some (.int .i64 x.kind) := h2.cell 0
                        have y1 : w'.cell? ⟨I, 1, none⟩ = some (.int .i64 (x.at_ : Nat)) := h2.cell 1
                        have y2 : w'.cell? ⟨I, 2, none⟩ = some (.string x.name) := h2.cell 2
                        have y3 : w'.cell? ⟨I, 3, none⟩ = some (.string x.type) := h2.cell 3
                        have y4 : w'.cell? ⟨I, 4, none⟩ = some (.int .i64 x.width) := h2.cell 4
                        have y5 : w'.cell? ⟨I, 5, none⟩ = some (.int .i64 x.order) := h2.cell 5
                        have y6 : w'.cell? ⟨I, 6, none⟩ = some (.bool x.signed) := h2.cell 6
                        have y7 : w'.cell? ⟨I, 7, none⟩ = some (.bool true) := h2.cell 7
                        have y8 : w'.cell? ⟨I, 8, none⟩ = some (.pointer p8) := h2.cell 8
                        have y9 : w'.cell? ⟨I, 9, none⟩ = some (.int .i64 x.rule) := h2.cell 9
                        have y10 : w'.cell? ⟨I, 10, none⟩ = some (.string x.first) := h2.cell 10
                        have y11 : w'.cell? ⟨I, 11, none⟩ = some (.string x.last) := h2.cell 11
                        have y12 : w'.cell? ⟨I, 12, none⟩ = some (.slice a12 n12 c12) := h2.cell 12
                        go_simp
                      try simp only [Act.put]
                      refine Hld.Run.take (i := 4) (d := 11) (v := .map mo) rfl (by kernel_rfl) (by kernel_rfl) (by kernel_rfl) (by kernel_rfl) (by kernel_rfl) (by kernel_rfl) (fun _ _ _ h => h) (Or.inl ⟨by rfl, ?_⟩) SH ?_
                      · intro w' hSw
                        obtain ⟨h1, h2⟩ := hSw
                        go_simp
                      try simp only [Act.put]
                      refine Hld.Run.one (i := 5) (by kernel_rfl) rfl (fun C1 hC1 => ?_)
                      go_simp
                      go_at_call 35
                      refine (C.out).mono ?_; rintro e' w8 ⟨kv3, rfl, hV, hg, hN, h1, h2, h3, h4, hF, a3, m3, c3, rfl⟩
                      simp only at hV hN h1 h2 h3 h4 hF
                      have M8 := MD.out.gr hg hV hN
                      refine hC1 _ _ ⟨fun _ => ⟨M8.bx.cell 6, HI2.out _ (M8.gm HBm.out (by have := HX2.out; omega))⟩, ?_⟩
                      have G8 := Lib.hid hg
                      have V8 := Lib.hid hV
                      have N8 := Lib.hid hN
                      have F8 := Lib.hid hF
                      have H8 := Lib.hid M8
                      have D8 := Lib.hid (show v1.k + 1 ≤ σ3.k ∧ σ3.k ≤ 401 ∧ (σ3.c = 0 → σ3.k ≤ 400) ∧ σ3.p ≤ s.size from ⟨h1, h2, h3, h4⟩)
                      clear C hV hg hN h1 h2 h3 h4 hF M8 hC1 C1 SH
                      simp only [ndVals]
                      refine Hld.Run.one (i := 6) (by kernel_rfl) rfl (fun C2 hC2 => ?_)
                      go_simp
                      have bA : Below w8.heap.size w8 (w8.alloc (.cells #[.string nm3, .int .i64 kd3, .int .i64 (at3 : Nat), .int .i64 sz3, .int .i64 n3, .string tx3, .slice a3 m3 c3] 27)) := (Below.refl _ _).alloc (Nat.le_refl _) _
                      have iA : (w8.alloc (.cells #[.string nm3, .int .i64 kd3, .int .i64 (at3 : Nat), .int .i64 sz3, .int .i64 n3, .string tx3, .slice a3 m3 c3] 27)).heap[w8.heap.size]? = some (.cells #[.string nm3, .int .i64 kd3, .int .i64 (at3 : Nat), .int .i64 sz3, .int .i64 n3, .string tx3, .slice a3 m3 c3] 27) := heap_alloc_new _ _
                      have M9 := H8.out.below bA
                      refine hC2 _ _ ⟨fun _ => ⟨M9.bx.cell 6, HI2.out _ (M9.gm HBm.out (by have := HX2.out; omega))⟩, ?_⟩
                      clear hC2 C2
                      generalize w8.alloc (.cells #[.string nm3, .int .i64 kd3, .int .i64 (at3 : Nat), .int .i64 sz3, .int .i64 n3, .string tx3, .slice a3 m3 c3] 27) = w9 at *
                      obtain ⟨B8, hB8⟩ : ∃ B, w8.heap.size = B := ⟨_, rfl⟩
                      rw [hB8] at iA ⊢
                      clear hB8
                      have H9 := Lib.hid M9
                      have B9 := Lib.hid bA
                      have I9 := Lib.hid iA
                      clear M9 bA iA
                      try simp only [Act.put]
                      refine Hld.Run.one (i := 7) (by kernel_rfl) rfl (fun C3 hC3 => ?_)
                      refine ownN_append_step (by rfl) _ _ (by rfl) (X + 1) kv kids (by rfl) H9.out.own B8 1 (.mk nm3 kd3 at3 sz3 n3 tx3 kl3, .slice a3 m3 c3) (by rfl) I9.out rfl (by omega) (by have := H9.out.g.size; have := H9.out.hX; omega) ?_
                      intro kv2 w10 ho hg10 _ hat
                      obtain ⟨a9, c9, hv9⟩ := ho.len
                      generalize (kids ++ [((Nd.mk nm3 kd3 at3 sz3 n3 tx3 kl3), (.slice a3 m3 c3 : Value))]).length = n9 at hv9
                      subst hv9
                      have M10 := MD.out.app G8.out V8.out N8.out F8.out B9.out hg10 ho hat
                      refine hC3 _ _ ⟨fun _ => ⟨M10.bx.cell 6, HI2.out _ (M10.gm HBm.out (by have := HX2.out; omega))⟩, ?_⟩
                      have H10 := Lib.hid M10
                      clear hC3 C3 ho hg10 hat M10 H9 I9 B9 H8 F8 N8 V8 G8 MD MO
                      try simp only [Act.put]
                      refine Hld.Run.one (i := 8) (by kernel_rfl) rfl (fun C4 hC4 => ?_)
                      go_simp
                      refine hC4 _ _ ⟨fun _ => ⟨H10.out.bx.cell 6, HI2.out _ (H10.out.gm HBm.out (by have := HX2.out; omega))⟩, ?_⟩
                      clear hC4 C4
                      try simp only [Act.put]
                      refine Hld.Run.one (i := 9) (by kernel_rfl) rfl (fun C5 hC5 => ?_)
                      have x6 : w10.cell? ⟨X, 6, none⟩ = some kv := H10.out.bx.cell 6
                      have f6 := H10.out.bx.free 6
                      go_simp
                      refine hC5 _ _ ⟨fun h => absurd rfl h, ?_⟩
                      refine Hld.Run.done (by kernel_rfl) ?_ _
                      clear hC5 C5
                      have H11 := Lib.hid (show MS W0 wm G mo tv s X [.string x.name, .int .i64 9, .int .i64 (v.p : Nat), .int .i64 0, .int .i64 0, .string ⟨#[]⟩, .slice a9 n9 c9] σ3 f3 (K1 + (σ3.k - (v1.k + 1))) (.slice a9 n9 c9) (kids ++ [(Nd.mk nm3 kd3 at3 sz3 n3 tx3 kl3, .slice a3 m3 c3)]) (w10.setCell ⟨X, 6, none⟩ (.slice a9 n9 c9)) from H10.out.set 6 (.slice a9 n9 c9))
                      go_wp2_with fail
                      go_roundw
                      case rel =>
                        obtain ⟨e1, e2, e3, e4⟩ := D8.out
                        exact ⟨(q : Int), σ3, f3, K1 + (σ3.k - (v1.k + 1)), .slice a9 n9 c9, kids ++ [(Nd.mk nm3 kd3 at3 sz3 n3 tx3 kl3, .slice a3 m3 c3)], by first | rfl | simp, by omega, by omega, H11, Lib.hid (by rw [Int.toNat_natCast, List.map_append]; exact HQ3.out), Lib.hid ⟨⟨by omega, by omega, e2, e3, e4, by simp; omega⟩, by omega⟩⟩
                      case measure => first | (simp [intOf]; done) | (simp [intOf]; omega)
                    · have e0 : (v1.c == 0) = false := by simpa using hc1
                      rw [e0] at CI
                      have HQ2 := Lib.hid (HQ.out.trans (if_pos hc1))
                      clear HQ hc1 e0
                      go_wp2_with fail
                      refine (CI.out).mono ?_; rintro e' w6 ⟨rfl, hb6⟩
                      have M6 := Lib.hid (M5.out.below hb6)
                      clear M5 CI c4 c5 hb6
                      go_wp2_with fail
                      go_meet
                      exact ⟨v1, f1, K1, kv, kids, M6, HQ2, HD⟩
                  · have hq1 : n1.toNat = 0 := by omega
                    rw [hq1] at HQ
                    have HQ2 := Lib.hid (HQ.out.trans rfl)
                    go_wp2_with fail
                    go_meet
                    exact ⟨v1, f1, K1, kv, kids, M5, HQ2, HD⟩
              case rest =>
                clear M4 HQ HD0
                obtain ⟨v1, f1, K1, kv, kids, hms, hQ1, hD1⟩ := hcut
                have M5 := Lib.hid hms.out
                have HQ1 := Lib.hid hQ1.out
                have HD := Lib.hid hD1.out
                clear hms hQ1 hD1
                obtain ⟨a5, c5, rfl⟩ := M5.out.own.len
                obtain ⟨n5, hn5⟩ : ∃ n, kids.length = n := ⟨_, rfl⟩
                have HN5 := Lib.hid hn5
                rw [hn5] at M5 HD
                clear hn5
                have y2 : wc.cell? ⟨G, 2, none⟩ = some (.int .i64 (v1.p : Nat)) := M5.out.V.c2
                have x2 : wc.cell? ⟨X, 2, none⟩ = some (.int .i64 (v.p : Nat)) := M5.out.bx.cell 2
                have x3 : wc.cell? ⟨X, 3, none⟩ = some (.int .i64 0) := M5.out.bx.cell 3
                have f3' := M5.out.bx.free 3
                have hGX : ¬ G = X := by have := M5.out.hG; omega
                have hXG : ¬ X = G := by have := M5.out.hG; omega
                have hs1 : ¬ ((v1.p : Int) - (v.p : Int) < -9223372036854775808) := by have := hb.out.2.2.2.2.1; have := Hs.out; omega
                have hs2 : (v1.p : Int) ≤ 1000 := by have := HD.out.1.2.2.2.2.1; have := Hs.out; omega
                have hs3 : (v.p : Int) ≤ 1000 := by have := hb.out.2.2.2.2.1; have := Hs.out; omega
                have hsw : wrap64 ((v1.p : Int) - (v.p : Int)) = (v1.p : Int) - (v.p : Int) := by unfold wrap64; omega
                obtain ⟨sz, hsz⟩ : ∃ z, (v1.p : Int) - (v.p : Int) = z := ⟨_, rfl⟩
                have HSZ := Lib.hid hsz
                go_upto_region 16 with fail
                go_cut [] (fun wx => Hid (MS W0 wm G mo tv s X [.string x.name, .int .i64 9, .int .i64 (v.p : Nat), .int .i64 sz, .int .i64 0, .string ⟨#[]⟩, .slice a5 n5 c5] v1 f1 K1 (.slice a5 n5 c5) kids wx))
                case first =>
                  have M6 := Lib.hid (show MS W0 wm G mo tv s X [.string x.name, .int .i64 9, .int .i64 (v.p : Nat), .int .i64 sz, .int .i64 0, .string ⟨#[]⟩, .slice a5 n5 c5] v1 f1 K1 (.slice a5 n5 c5) kids ((wc.setCell ⟨X, 3, none⟩ (.int .i64 sz)).drew) from (M5.out.set 3 (.int .i64 sz)).below (Below.refl _ _).drew)
                  go_region
                  all_goals
                    go_wp2_with fail
                    go_meet
                    exact M6
                case rest =>
                  have M6 := Lib.hid hcut.out
                  clear hcut M5 y2 x2 x3 f3' hGX hXG hs1 hs2 hs3 hsw hsz
                  have x0 : wc.cell? ⟨X, 0, none⟩ = some (.string x.name) := M6.out.bx.cell 0
                  have x1 : wc.cell? ⟨X, 1, none⟩ = some (.int .i64 9) := M6.out.bx.cell 1
                  have x2 : wc.cell? ⟨X, 2, none⟩ = some (.int .i64 (v.p : Nat)) := M6.out.bx.cell 2
                  have x3 : wc.cell? ⟨X, 3, none⟩ = some (.int .i64 sz) := M6.out.bx.cell 3
                  have x4 : wc.cell? ⟨X, 4, none⟩ = some (.int .i64 0) := M6.out.bx.cell 4
                  have x5 : wc.cell? ⟨X, 5, none⟩ = some (.string ⟨#[]⟩) := M6.out.bx.cell 5
                  have x6 : wc.cell? ⟨X, 6, none⟩ = some (.slice a5 n5 c5) := M6.out.bx.cell 6
                  have hle := BB.out.size
                  have g5 := Lib.hid ((Gr.below (S := GM G mo) BB.out).trans (M6.out.gm HBm.out (by have := HX2.out; omega)))
                  have V5 := Lib.hid M6.out.V
                  have N5 := Lib.hid M6.out.N
                  have F5 := Lib.hid (show NdF wr.heap.size wc (.mk x.name 9 v.p sz 0 ⟨#[]⟩ (kids.map (·.1))) (.slice a5 n5 c5) from ndF_kids (Fw.low M6.out.whole (by have := HX2.out; omega)) _ _ _ _ _ _)
                  have O5 := Lib.hid ((S1.out.gr g5.out V5.out N5.out).own)
                  have L5 := Lib.hid (show out.length + 1 ≤ 1000000 by have := hb.out.2.2.2.2.2; have := hb.out.2.2.1; omega)
                  have Z5 := Lib.hid (show W.heap.size ≤ wc.heap.size from Nat.le_trans S1.out.g.size g5.out.size)
                  have HR4 := Lib.hid (show R = blkG (oneD ts s m) (l.drop (j + 1)) (out.map (·.1) ++ [.mk x.name 9 v.p sz 0 ⟨#[]⟩ (kids.map (·.1))]) v1 f1 by
                    have h := HR3.out
                    rw [HQ1.out] at h
                    simp only [HSZ.out] at h
                    exact h)
                  clear hle HR3 HQ1 M6
                  go_wp2_with (at_builtin; refine ownN_append1 rfl _ _ rfl W.heap.size (.slice a out.length c) out rfl (O5.out.alloc _) _ 1 (.mk x.name 9 v.p sz 0 ⟨#[]⟩ (kids.map (·.1)), .slice a5 n5 c5) rfl (heap_alloc_new _ _) rfl L5.out (by have := Z5.out; simp; omega) ?_; intro v8 w8 ho8 hg8 hb8 hat8; have O8 := Lib.hid ho8; have G8 := Lib.hid hg8; have B8 := Lib.hid hb8; have AT8 := Lib.hid hat8; clear ho8 hg8 hb8 hat8)
                  go_roundw
                  case rel =>
                    have bb : Below wc.heap.size wc (wc.alloc (.cells #[.string x.name, .int .i64 9, .int .i64 (v.p : Nat), .int .i64 sz, .int .i64 0, .string ⟨#[]⟩, .slice a5 n5 c5] 27)) := (Below.refl _ _).alloc (Nat.le_refl _) _
                    obtain ⟨⟨q1, q2, q3, q4, q5, q6⟩, q7⟩ := HD.out
                    obtain ⟨b1, b2, b3, b4, b5, b6⟩ := hb.out
                    exact ⟨j + 1, by go_num, hlt, outR_app (p := (.mk x.name 9 v.p sz 0 ⟨#[]⟩ (kids.map (·.1)), .slice a5 n5 c5)) S1.out HR4.out g5.out V5.out N5.out F5.out ⟨by omega, by omega, q3, q4, q5, by omega⟩ bb G8.out O8.out AT8.out⟩
                  case measure => first | (simp [intOf]; done) | (simp [intOf]; omega)
        | false =>
          have hW1 := (wfI_iff _).1 HWx.out
          have hBd := Lib.hid (fun h1 => oneD_bds (ts := ts) (s := s) (m := m) (x := x) (v := v) (f := f') h1 (hW1.1.wide h1))
          have hnm := hW1.1.names.1
          have t0 : w2.cell? ⟨I, 0, none⟩ = some (.int .i64 x.kind) := IB2.out.cell 0
          have t1 : w2.cell? ⟨I, 1, none⟩ = some (.int .i64 (x.at_ : Nat)) := IB2.out.cell 1
          have t2 : w2.cell? ⟨I, 2, none⟩ = some (.string x.name) := IB2.out.cell 2
          have t3 : w2.cell? ⟨I, 3, none⟩ = some (.string x.type) := IB2.out.cell 3
          have t4 : w2.cell? ⟨I, 4, none⟩ = some (.int .i64 x.width) := IB2.out.cell 4
          have t5 : w2.cell? ⟨I, 5, none⟩ = some (.int .i64 x.order) := IB2.out.cell 5
          have t6 : w2.cell? ⟨I, 6, none⟩ = some (.bool x.signed) := IB2.out.cell 6
          have t8 : w2.cell? ⟨I, 8, none⟩ = some (.pointer p8) := IB2.out.cell 8
          have t9 : w2.cell? ⟨I, 9, none⟩ = some (.int .i64 x.rule) := IB2.out.cell 9
          have t10 : w2.cell? ⟨I, 10, none⟩ = some (.string x.first) := IB2.out.cell 10
          have t11 : w2.cell? ⟨I, 11, none⟩ = some (.string x.last) := IB2.out.cell 11
          have t12 : w2.cell? ⟨I, 12, none⟩ = some (.slice a12 n12 c12) := IB2.out.cell 12
          obtain ⟨b1, b2, b3, b4, b5, b6⟩ := hb.out
          have kK := HK.out
          have C := Lib.hid (HH.out G mo v f' K' w2 x (.pointer p8) (.slice a12 n12 c12) (S3.out.op (by omega) b3 b4 b5 Hs.out) HC.out HX.out HWx.out (by have := Hm.out; omega) (.inl HMo.out))
          rw [show (itVals x (.pointer p8) (.slice a12 n12 c12)).toArray = #[.int .i64 x.kind, .int .i64 x.at_, .string x.name, .string x.type, .int .i64 x.width, .int .i64 x.order, .bool x.signed, .bool x.many, .pointer p8, .int .i64 x.rule, .string x.first, .string x.last, .slice a12 n12 c12] from rfl, hmn] at C
          obtain ⟨⟨⟨nm3, kd3, at3, sz3, n3, tx3, kl3⟩, σ3, f3⟩, hq⟩ : ∃ q, oneD ts s m x v f' = q := ⟨_, rfl⟩
          have hpt : partG (oneD ts s m) x v f' = (.mk nm3 kd3 at3 sz3 n3 tx3 kl3, σ3, if x.kind = 1 then putN f3 x.name n3 else f3) := by
            unfold partG
            rw [if_neg (by rw [hmn]; decide), hq]
            rfl
          rw [hpt] at HR2
          rw [hq] at C hBd
          clear hpt hq
          obtain ⟨kd, hkd⟩ : ∃ k, x.kind = k := ⟨_, rfl⟩
          rw [hkd] at t0 C HR2 hBd
          have HKd := Lib.hid hkd
          clear hkd
          go_wp2_with fail
          refine (C.out).mono ?_; rintro e' w3 ⟨kv, rfl, hV, hg, hN, h1, h2, h3, h4, hF, a3, m3, c3, rfl⟩
          simp only at hV hN h1 h2 h3 h4 hF
          simp only [ndVals, List.toArray]
          go_upto_region 19 with fail
          have bA : Below w3.heap.size w3 (w3.alloc (.cells #[.string nm3, .int .i64 kd3, .int .i64 (at3 : Nat), .int .i64 sz3, .int .i64 n3, .string tx3, .slice a3 m3 c3] 27)) := (Below.refl _ _).alloc (Nat.le_refl _) _
          have iA : NB (w3.alloc (.cells #[.string nm3, .int .i64 kd3, .int .i64 (at3 : Nat), .int .i64 sz3, .int .i64 n3, .string tx3, .slice a3 m3 c3] 27)) w3.heap.size [.string nm3, .int .i64 kd3, .int .i64 (at3 : Nat), .int .i64 sz3, .int .i64 n3, .string tx3, .slice a3 m3 c3] := NB.new _ _
          generalize w3.alloc (.cells #[.string nm3, .int .i64 kd3, .int .i64 (at3 : Nat), .int .i64 sz3, .int .i64 n3, .string tx3, .slice a3 m3 c3] 27) = w4 at *
          obtain ⟨X, hX⟩ : ∃ X, w3.heap.size = X := ⟨_, rfl⟩
          rw [hX] at iA ⊢
          have HXl := Lib.hid (show W.heap.size ≤ X by have := S1.out.g.size; have := BB.out.size; have := hg.size; omega)
          have hG0 := S1.out.hG
          have hm0 := S1.out.hm
          have hz0 := S1.out.g.size
          have hS := gm_lt hG0 fun b hb => (hm0 b hb).1
          have z3 := BB.out.size
          have g4 := Lib.hid (((Gr.below (S := GM G mo) BB.out).trans hg).trans (Gr.below bA))
          have V4 := Lib.hid (hV.below bA)
          have N4 := Lib.hid (hN.below bA)
          have F4 := Lib.hid (Fw.gr (Fw.gr (Fw.low hF z3) (Gr.below (S := fun _ => False) bA) (fun _ h => h.elim)) (Gr.refl (GM G mo) w4) (fun k hk => by have := hS k hk; omega))
          have I4 := Lib.hid (IB.gr (IB.gr IB2.out hg (fun hk => by have := hS I hk; have := HIe.out; omega)) (Gr.below (S := fun _ => False) bA) id)
          have Hh := Lib.hid (show (0 : Nat) = 0 ∧ v.k + 1 ≤ σ3.k ∧ σ3.k ≤ 401 ∧ (σ3.c = 0 → σ3.k ≤ 400) ∧ σ3.p ≤ s.size from ⟨rfl, h1, h2, h3, h4⟩)
          have X4 := Lib.hid iA
          clear hV hg hN h1 h2 h3 h4 hF bA iA hX C t1 t2 t3 t4 t5 t6 t7 t8 t9 t10 t11 t12 z3 b1 b2 b3 b4 b5 b6
          have t0 : w4.cell? ⟨I, 0, none⟩ = some (.int .i64 kd) := by rw [← HKd.out]; exact I4.out.cell 0
          by_cases h1 : kd = 1
          · subst h1
            have t2 : w4.cell? ⟨I, 2, none⟩ = some (.string x.name) := I4.out.cell 2
            have x4 : w4.cell? ⟨X, 4, none⟩ = some (.int .i64 n3) := X4.out.cell 4
            have HR3 := Lib.hid (by have h := HR2.out; rw [if_pos rfl] at h; exact h)
            obtain ⟨w5, hput, hN5, hg5⟩ := N4.out.put HMo.out (by have := hb.out.1; have := hb.out.2.2.1; have := HK.out; have := Hh.out.2.2.1; have := hb.out.2.1; omega) x.name hnm n3 (hBd.out rfl)
            have gM : Gr (GM G mo) w4 w5 := ⟨hg5.os, hg5.tape, hg5.output, hg5.size, fun k hk hn => hg5.block k hk (fun e => hn (.inr e))⟩
            have g5 := Lib.hid (g4.out.trans gM)
            have V5 := Lib.hid (V4.out.block (hg5.block G V4.out.lt (fun e => (hm0 G e.symm).2 rfl)))
            have N5 := Lib.hid hN5
            have F5 := Lib.hid (Fw.gr F4.out gM (fun k hk => by have := hS k hk; omega))
            have X5 := Lib.hid (X4.out.gr gM (fun hk => by have := hS X hk; have := HXl.out; omega))
            clear hN5 hg5 gM HR2 N4 g4 V4 F4 hBd
            have x0 : w5.cell? ⟨X, 0, none⟩ = some (.string nm3) := X5.out.cell 0
            have x1 : w5.cell? ⟨X, 1, none⟩ = some (.int .i64 kd3) := X5.out.cell 1
            have x2 : w5.cell? ⟨X, 2, none⟩ = some (.int .i64 (at3 : Nat)) := X5.out.cell 2
            have x3 : w5.cell? ⟨X, 3, none⟩ = some (.int .i64 sz3) := X5.out.cell 3
            have x4 : w5.cell? ⟨X, 4, none⟩ = some (.int .i64 n3) := X5.out.cell 4
            have x5 : w5.cell? ⟨X, 5, none⟩ = some (.string tx3) := X5.out.cell 5
            have x6 : w5.cell? ⟨X, 6, none⟩ = some (.slice a3 m3 c3) := X5.out.cell 6
            have O5 := Lib.hid ((S1.out.gr g5.out V5.out N5.out).own)
            have L5 := Lib.hid (show out.length + 1 ≤ 1000000 by have := hb.out.2.2.2.2.2; have := hb.out.2.2.1; omega)
            have Z5 := Lib.hid (show W.heap.size ≤ w5.heap.size from Nat.le_trans hz0 g5.out.size)
            go_wp2_with (at_builtin; refine ownN_append1 rfl _ _ rfl W.heap.size (.slice a out.length c) out rfl (O5.out.alloc _) _ 1 (.mk nm3 kd3 at3 sz3 n3 tx3 kl3, .slice a3 m3 c3) rfl (heap_alloc_new _ _) rfl L5.out (by have := Z5.out; simp; omega) ?_; intro v8 w8 ho8 hg8 hb8 hat8; have O8 := Lib.hid ho8; have G8 := Lib.hid hg8; have B8 := Lib.hid hb8; have AT8 := Lib.hid hat8; clear ho8 hg8 hb8 hat8)
            go_roundw
            case rel =>
              have bb : Below w5.heap.size w5 (w5.alloc (.cells #[.string nm3, .int .i64 kd3, .int .i64 (at3 : Nat), .int .i64 sz3, .int .i64 n3, .string tx3, .slice a3 m3 c3] 27)) := (Below.refl _ _).alloc (Nat.le_refl _) _
              obtain ⟨q1, q2, q3, q4, q5⟩ := Hh.out
              obtain ⟨b1, b2, b3, b4, b5, b6⟩ := hb.out
              exact ⟨j + 1, by go_num, hlt, outR_app (p := (.mk nm3 kd3 at3 sz3 n3 tx3 kl3, .slice a3 m3 c3)) S1.out HR3.out g5.out V5.out N5.out F5.out ⟨by omega, by omega, q3, q4, q5, by omega⟩ bb G8.out O8.out AT8.out⟩
            case measure => first | (simp [intOf]; done) | (simp [intOf]; omega)
          · have e1 : (kd == 1) = false := by simpa using h1
            have HR3 := Lib.hid (by have h := HR2.out; rw [if_neg h1] at h; exact h)
            have g5 := g4
            have V5 := V4
            have N5 := N4
            have F5 := F4
            have X5 := X4
            clear HR2 hBd
            have x0 : w4.cell? ⟨X, 0, none⟩ = some (.string nm3) := X5.out.cell 0
            have x1 : w4.cell? ⟨X, 1, none⟩ = some (.int .i64 kd3) := X5.out.cell 1
            have x2 : w4.cell? ⟨X, 2, none⟩ = some (.int .i64 (at3 : Nat)) := X5.out.cell 2
            have x3 : w4.cell? ⟨X, 3, none⟩ = some (.int .i64 sz3) := X5.out.cell 3
            have x4 : w4.cell? ⟨X, 4, none⟩ = some (.int .i64 n3) := X5.out.cell 4
            have x5 : w4.cell? ⟨X, 5, none⟩ = some (.string tx3) := X5.out.cell 5
            have x6 : w4.cell? ⟨X, 6, none⟩ = some (.slice a3 m3 c3) := X5.out.cell 6
            have O5 := Lib.hid ((S1.out.gr g5.out V5.out N5.out).own)
            have L5 := Lib.hid (show out.length + 1 ≤ 1000000 by have := hb.out.2.2.2.2.2; have := hb.out.2.2.1; omega)
            have Z5 := Lib.hid (show W.heap.size ≤ w4.heap.size from Nat.le_trans hz0 g5.out.size)
            go_wp2_with (at_builtin; refine ownN_append1 rfl _ _ rfl W.heap.size (.slice a out.length c) out rfl (O5.out.alloc _) _ 1 (.mk nm3 kd3 at3 sz3 n3 tx3 kl3, .slice a3 m3 c3) rfl (heap_alloc_new _ _) rfl L5.out (by have := Z5.out; simp; omega) ?_; intro v8 w8 ho8 hg8 hb8 hat8; have O8 := Lib.hid ho8; have G8 := Lib.hid hg8; have B8 := Lib.hid hb8; have AT8 := Lib.hid hat8; clear ho8 hg8 hb8 hat8)
            go_roundw
            case rel =>
              have bb : Below w4.heap.size w4 (w4.alloc (.cells #[.string nm3, .int .i64 kd3, .int .i64 (at3 : Nat), .int .i64 sz3, .int .i64 n3, .string tx3, .slice a3 m3 c3] 27)) := (Below.refl _ _).alloc (Nat.le_refl _) _
              obtain ⟨q1, q2, q3, q4, q5⟩ := Hh.out
              obtain ⟨b1, b2, b3, b4, b5, b6⟩ := hb.out
              exact ⟨j + 1, by go_num, hlt, outR_app (p := (.mk nm3 kd3 at3 sz3 n3 tx3 kl3, .slice a3 m3 c3)) S1.out HR3.out g5.out V5.out N5.out F5.out ⟨by omega, by omega, q3, q4, q5, by omega⟩ bb G8.out O8.out AT8.out⟩
            case measure => first | (simp [intOf]; done) | (simp [intOf]; omega)
      · have e0 : (v.c == 0) = false := by simpa using hc
        rw [e0] at CI
        have HR2 := Lib.hid (HR1.out.trans (blk_halt hlt hc))
        clear HR1 hc e0
        go_wp2_with fail
        refine (CI.out).mono ?_; rintro e' w2 ⟨rfl, hb2⟩
        have S3 := Lib.hid (S2.out.below hb2)
        clear S2 CI c4 c5 hb2
        go_wp2_with fail
        go_ret
        obtain ⟨b1, b2, b3, b4, b5, _⟩ := hb.out
        rw [HR2.out]
        exact ⟨_, rfl, S3.out.V, S3.out.g, S3.out.N.mono b1, b2, b3, b4, b5, nds_nil _ _, _, _, _, rfl⟩
    · have d1 : ¬ (j : Int) < (l.length : Int) := by omega
      have HR2 := Lib.hid (show R = (out.map (·.1), v, f') by rw [HR1.out, List.drop_of_length_le (by omega)]; rfl)
      clear HR1
      go_wp2_with fail
      go_ret
      obtain ⟨b1, b2, b3, b4, b5, _⟩ := hb.out
      rw [HR2.out]
      exact ⟨_, rfl, S1.out.V, S1.out.g, S1.out.N.mono b1, b2, b3, b4, b5, S1.out.whole, _, _, _, rfl⟩
end
end Go.Proofs.YtkopjmofdnlplaaGreatDoor.Ly
