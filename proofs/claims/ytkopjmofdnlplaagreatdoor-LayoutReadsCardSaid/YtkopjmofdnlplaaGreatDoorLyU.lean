/-
  PROVED HERE: the memory while the program reads as many of an item as there are to be; the contract of the program's reader's many; the contract of the program's reader's items. Conditions: as each theorem states.
-/
import Derived.Test.YtkopjmofdnlplaaGreatDoorLyQ
namespace Go.Proofs.YtkopjmofdnlplaaGreatDoor.Ly
open Go.RowKit Go.Proofs.YtkopjmofdnlplaaGreatDoor.Tm
structure MQ (W0 W : World) (G : Nat) (mo : Option Nat) (fm : Value) (s : ByteArray) (Rb X : Nat) (vs : List Value) (v : Vw) (f : Nf) (K : Nat) (kv : Value) (kids : List Nv) (w : World) : Prop where
  q : QS W0 W G mo fm s Rb X v f K vs w
  own : OwnN w (X + 1) kv kids
  aw : Aw (X + 1) kv.ownBlock w (AllN kids)
section
variable {W0 W w w' : World} {G Rb X : Nat} {mo : Option Nat} {fm : Value} {s : ByteArray} {v v' : Vw} {f f' : Nf} {K K' : Nat} {kv : Value} {kids : List Nv} {vs : List Value}
theorem MQ.start (h : QS W0 W G mo fm s Rb X v f K vs w) : MQ W0 W G mo fm s Rb X vs v f K (.slice none 0 0) [] w := ⟨h, ownN_nil _ _, awN_nil _ _ _⟩
theorem MQ.gr (h : MQ W0 W G mo fm s Rb X vs v f K kv kids w) (g : Gr (GM G mo) w w') (V' : PV G fm s v' w') (N' : NmW w' mo f' K') : MQ W0 W G mo fm s Rb X vs v' f' K' kv kids w' := by
  have hG := h.q.hG
  have hm := h.q.hm
  have hR := h.q.hR
  have hX := h.q.hX
  have hS := gm_lt hG fun b hb => (hm b hb).1
  refine ⟨h.q.gr g V' N', OwnN.block h.own g.size (fun k hk => ?_), AwN.gr h.aw g (fun k hk => by have := hS k hk; omega)⟩
  have hk2 := World.ownsRow.lt h.own k hk
  exact g.block k hk2.2 (fun hS2 => by have := hS k hS2; omega)
theorem MQ.below (h : MQ W0 W G mo fm s Rb X vs v f K kv kids w) (hb : Below w.heap.size w w') : MQ W0 W G mo fm s Rb X vs v f K kv kids w' := h.gr (Gr.below hb) (h.q.V.below hb) (h.q.N.below hb)
theorem MQ.whole (h : MQ W0 W G mo fm s Rb X vs v f K kv kids w) : NdsF (X + 1) w (kids.map (·.1)) kv := nds_of h.own h.aw
theorem MQ.set (h : MQ W0 W G mo fm s Rb X vs v f K kv kids w) (j : Nat) (x : Value) : MQ W0 W G mo fm s Rb X (vs.set j x) v f K kv kids (w.setCell ⟨X, j, none⟩ x) := by
  have e : ∀ k, k ≠ X → (w.setCell ⟨X, j, none⟩ x).heap[k]? = w.heap[k]? := fun k hk => Below.heap_setCell _ _ _ _ hk
  have sz : (w.setCell ⟨X, j, none⟩ x).heap.size = w.heap.size := by simp [World.setCell]
  refine ⟨h.q.set j x, OwnN.block h.own (by rw [sz]; exact Nat.le_refl _) (fun k hk => ?_), ?_⟩
  · have hk2 := World.ownsRow.lt h.own k hk
    exact e k (by omega)
  · intro w2 h2
    refine h.aw w2 fun k h3 h4 h5 => (h2 k h3 (by rw [sz]; exact h4) h5).trans (e k (by omega))
/-- One more of the item. -/
theorem MQ.app {w1 w2 w3 : World} {kv2 : Value} {p : Nv} (h : MQ W0 W G mo fm s Rb X vs v f K kv kids w) (g1 : Gr (GM G mo) w w1) (V1 : PV G fm s v' w1) (N1 : NmW w1 mo f' K') (hp : NdF w.heap.size w1 p.1 p.2)
    (g2 : Below w1.heap.size w1 w2) (g3 : w2.grownBy w3 kv.ownBlock) (ho : OwnN w3 (X + 1) kv2 (kids ++ [p])) (hat : kv2.ownBlock = kv.ownBlock ∨ kv2.ownBlock = some w2.heap.size) : MQ W0 W G mo fm s Rb X vs v' f' K' kv2 (kids ++ [p]) w3 := by
  have h2 := (h.gr g1 V1 N1).below g2
  have hG := h.q.hG
  have hm := h.q.hm
  have hR := h.q.hR
  have hX := h.q.hX
  have lo := h.q.lo
  have hxl := h.q.bx.lt
  have hS := gm_lt hG fun b hb => (hm b hb).1
  have hge : ∀ k, kv.ownBlock = some k → X + 1 ≤ k ∧ k < w2.heap.size := fun k hk => World.ownsRow.lt h2.own k hk
  have hne : ∀ k, k < X + 1 → some k ≠ kv.ownBlock := fun k hk e => by have := (hge k e.symm).1; omega
  have s2 := h2.q.g.size
  have b2 := h2.q.b0
  have q2 := h2.q.g
  refine ⟨⟨⟨g3.os.trans b2.os, g3.tape.trans b2.tape, g3.output.trans b2.output, Nat.le_trans b2.size g3.size, fun k hk => (g3.block k (by omega) (hne k (by omega))).trans (b2.block k hk)⟩, h2.q.V.block (g3.block G (by omega) (hne G (by omega))), ⟨g3.os.trans q2.os, g3.tape.trans q2.tape, g3.output.trans q2.output, Nat.le_trans q2.size g3.size, fun k hk hSk => (g3.block k (by omega) (hne k (by omega))).trans (q2.block k hk hSk)⟩, h2.q.N.block fun b hb => g3.block b (by have := (hm b hb).1; omega) (hne b (by have := (hm b hb).1; omega)), (g3.block Rb h2.q.rx.lt (hne Rb (by omega))).trans h2.q.rx, (g3.block X h2.q.bx.lt (hne X (by omega))).trans h2.q.bx, hR, hX, hG, hm, lo, h.q.lG, h.q.lm⟩, ho, ?_⟩
  exact awN_next h.aw hp (fun k hk => (World.ownsRow.lt h.own k hk).2) (by omega) g1 (fun k hk => by have := hS k hk; omega) g2 g3 hat
end
/-! ### items: the parts so far -/
structure LQ (W0 W : World) (G : Nat) (mo : Option Nat) (fm : Value) (s : ByteArray) (v : Vw) (f : Nf) (K : Nat) (ov : Value) (out : List Nv) (w : World) : Prop where
  b0 : Below W0.heap.size W0 w
  V : PV G fm s v w
  g : Gr (GM G mo) W w
  N : NmW w mo f K
  own : OwnN w W.heap.size ov out
  aw : Aw W.heap.size ov.ownBlock w (AllN out)
  hG : G < W.heap.size
  hm : ∀ b, mo = some b → b < W.heap.size ∧ b ≠ G
  lo : W0.heap.size ≤ W.heap.size
  lG : W0.heap.size ≤ G
  lm : ∀ b, mo = some b → W0.heap.size ≤ b
section
variable {W0 W w w' : World} {G : Nat} {mo : Option Nat} {fm : Value} {s : ByteArray} {v v' : Vw} {f f' : Nf} {K K' : Nat} {ov : Value} {out : List Nv}
theorem LQ.start {f : Nf} (P : PP W0 G mo fm s v f K W) : LQ W0 W G mo fm s v f K (.slice none 0 0) [] W :=
  ⟨P.b0, P.V, Gr.refl _ _, P.N, ownN_nil _ _, awN_nil _ _ _, P.V.lt, fun b hb => ⟨P.N.lt b hb, (P.hm b hb).2⟩, P.b0.size, P.hG, fun b hb => (P.hm b hb).1⟩
theorem LQ.gr (h : LQ W0 W G mo fm s v f K ov out w) (g : Gr (GM G mo) w w') (V' : PV G fm s v' w') (N' : NmW w' mo f' K') : LQ W0 W G mo fm s v' f' K' ov out w' := by
  have hG := h.hG
  have hm := h.hm
  have hS := gm_lt hG fun b hb => (hm b hb).1
  refine ⟨Gr.to_below h.b0 g h.b0.size (fun k hk hS => ?_), V', h.g.trans g, N', OwnN.block h.own g.size (fun k hk => ?_), AwN.gr h.aw g hS, hG, hm, h.lo, h.lG, h.lm⟩
  · rcases hS with e | e
    · have := h.lG; omega
    · have := h.lm k e.symm; omega
  · have hk2 := World.ownsRow.lt h.own k hk
    exact g.block k hk2.2 (fun hS2 => by have := hS k hS2; omega)
theorem LQ.below (h : LQ W0 W G mo fm s v f K ov out w) (hb : Below w.heap.size w w') : LQ W0 W G mo fm s v f K ov out w' := h.gr (Gr.below hb) (h.V.below hb) (h.N.below hb)
theorem LQ.pp (h : LQ W0 W G mo fm s v f K ov out w) (kK : K ≤ v.k) (k : v.k ≤ 400) (c : v.c = 0) (p : v.p ≤ s.size) (hs : s.size ≤ 1000) : PP W0 G mo fm s v f K w :=
  ⟨h.b0, h.lG, fun b hb => ⟨h.lm b hb, (h.hm b hb).2⟩, h.V, h.N, kK, k, c, p, hs⟩
theorem LQ.whole (h : LQ W0 W G mo fm s v f K ov out w) : NdsF W.heap.size w (out.map (·.1)) ov := nds_of h.own h.aw
/-- One part more. -/
theorem LQ.app {w1 w2 w3 : World} {ov2 : Value} {p : Nv} (h : LQ W0 W G mo fm s v f K ov out w) (g1 : Gr (GM G mo) w w1) (V1 : PV G fm s v' w1) (N1 : NmW w1 mo f' K') (hp : NdF w.heap.size w1 p.1 p.2)
    (g2 : Below w1.heap.size w1 w2) (g3 : w2.grownBy w3 ov.ownBlock) (ho : OwnN w3 W.heap.size ov2 (out ++ [p])) (hat : ov2.ownBlock = ov.ownBlock ∨ ov2.ownBlock = some w2.heap.size) : LQ W0 W G mo fm s v' f' K' ov2 (out ++ [p]) w3 := by
  have h2 := (h.gr g1 V1 N1).below g2
  have hG := h.hG
  have hm := h.hm
  have lo := h.lo
  have hS := gm_lt hG fun b hb => (hm b hb).1
  have hge : ∀ k, ov.ownBlock = some k → W.heap.size ≤ k ∧ k < w2.heap.size := fun k hk => World.ownsRow.lt h2.own k hk
  have hne : ∀ k, k < W.heap.size → some k ≠ ov.ownBlock := fun k hk e => by have := (hge k e.symm).1; omega
  have s2 := h2.g.size
  have b2 := h2.b0
  have q2 := h2.g
  refine ⟨⟨g3.os.trans b2.os, g3.tape.trans b2.tape, g3.output.trans b2.output, Nat.le_trans b2.size g3.size, fun k hk => (g3.block k (by omega) (hne k (by omega))).trans (b2.block k hk)⟩, h2.V.block (g3.block G (by omega) (hne G hG)), ⟨g3.os.trans q2.os, g3.tape.trans q2.tape, g3.output.trans q2.output, Nat.le_trans q2.size g3.size, fun k hk hSk => (g3.block k (by omega) (hne k hk)).trans (q2.block k hk hSk)⟩, h2.N.block fun b hb => g3.block b (by have := (hm b hb).1; omega) (hne b (hm b hb).1), ho, ?_, hG, hm, lo, h.lG, h.lm⟩
  exact awN_next h.aw hp (fun k hk => (World.ownsRow.lt h.own k hk).2) h.g.size g1 hS g2 g3 hat
end
end Go.Proofs.YtkopjmofdnlplaaGreatDoor.Ly
namespace Go.Proofs.YtkopjmofdnlplaaGreatDoor.Ly
open Go.RowKit Go.Proofs.YtkopjmofdnlplaaGreatDoor.Tm
section
variable {W0 : World} {ts : List Ty} {fm : Value} {s : ByteArray} {m : Nat}
theorem thr_m {W w' : World} {G : Nat} {mo : Option Nat} {K k : Nat} {R : Nd × Vw × Nf} {e : Ending} {c a : Int} (g : Gr (GM G mo) W w') (hR : R.2.1.c = c ∧ R.2.1.a = a) (h : PThr w' c a e) : OnQ W G mo fm s K k R e w' := ⟨g, .inr (by rw [hR.1, hR.2]; exact h)⟩
set_option maxRecDepth 100000 in
set_option maxHeartbeats 8000000 in
theorem pmany_any (HO : OneQ W0 ts fm s m) : ManyQ W0 ts fm s m := by
  intro G mo σ f K W x xb xo P hp hw hm hmo hmn
  have HXP := Lib.hid hp
  obtain ⟨hxG, cv, iv, hcx, hit⟩ := hp
  obtain ⟨pc, rfl⟩ := ct_ptr ((itAt_iff _ _ _ _).1 hit).1
  have HMo := Lib.hid hmo
  have HP := Lib.hid P
  have HW := Lib.hid hw
  have HH := Lib.hid HO
  obtain ⟨R, hR⟩ : ∃ R, listG (oneD ts s m) x σ f = R := ⟨_, rfl⟩
  rw [hR]
  have hW1 := (wfI_iff _).1 hw
  obtain ⟨e, he⟩ : ∃ e, x.count = some e := Option.ne_none_iff_exists'.1 (hW1.1.cnt (.inr (.inr hmn)))
  have hex : ExAt W0 e (.pointer pc) := by
    have := ((itAt_iff _ _ _ _).1 hit).1
    rw [he] at this
    exact this
  have HEX := Lib.hid hex
  have HOK := Lib.hid (hW1.1.sz e he).2
  obtain ⟨nm, hnm⟩ : ∃ k, x.name = k := ⟨_, rfl⟩
  have HR0 := Lib.hid (show R = (.mk nm 9 σ.p (((manyG (oneD ts s m) x (evalF f e).1.toNat [] (lowV (evalF f e).1 (cntV (evalF f e) (begV σ))) f).2.1.p : Int) - (σ.p : Int)) 0 emp (manyG (oneD ts s m) x (evalF f e).1.toNat [] (lowV (evalF f e).1 (cntV (evalF f e) (begV σ))) f).1, (manyG (oneD ts s m) x (evalF f e).1.toNat [] (lowV (evalF f e).1 (cntV (evalF f e) (begV σ))) f).2) by rw [← hR, ← hnm]; unfold listG; rw [he]; rfl)
  have HC2 := Lib.hid (fun (w : World) (hb : Gr (GM G mo) W w) => show w.cell? ⟨xb, xo + 2, none⟩ = some (.string nm) by rw [← hnm]; exact hcx w hb 2 _ rfl)
  have HC8 := Lib.hid (fun (w : World) (hb : Gr (GM G mo) W w) => show w.cell? ⟨xb, xo + 8, none⟩ = some (.pointer pc) from hcx w hb 8 _ rfl)
  have HK1 := Lib.hid hm
  have hGlt := P.V.lt
  clear P hit hw HO hcx hmo hm hmn hR hex he hnm hW1
  go_enter Tryz.func124, Tryz.ntmps124
  go_upto_region 1 with fail
  have bA : Below W.heap.size W (W.alloc (.cells #[.string ⟨#[]⟩, .int .i64 0, .int .i64 0, .int .i64 0, .int .i64 0, .string ⟨#[]⟩, .slice none 0 0] 27)) := (Below.refl _ _).alloc (Nat.le_refl _) _
  have iA : NB (W.alloc (.cells #[.string ⟨#[]⟩, .int .i64 0, .int .i64 0, .int .i64 0, .int .i64 0, .string ⟨#[]⟩, .slice none 0 0] 27)) W.heap.size nd0 := NB.new _ _
  generalize W.alloc (.cells #[.string ⟨#[]⟩, .int .i64 0, .int .i64 0, .int .i64 0, .int .i64 0, .string ⟨#[]⟩, .slice none 0 0] 27) = w1 at *
  obtain ⟨Rb, hRb⟩ : ∃ I, W.heap.size = I := ⟨_, rfl⟩
  have HRb := Lib.hid hRb
  rw [hRb] at iA ⊢
  have b1 : Gr (GM G mo) W w1 := Gr.below bA
  have C := Lib.hid (node_any (HP.out.V.below bA) xb xo nm 9 (HC2.out w1 b1) hxG HP.out.c HP.out.k)
  have hBf := begV_facts σ
  have BA := Lib.hid bA
  have IA := Lib.hid iA
  clear bA iA hRb b1
  obtain ⟨σ1, hσ1⟩ : ∃ v, begV σ = v := ⟨_, rfl⟩
  have HR := HR0
  rw [hσ1] at HR C hBf
  clear hσ1 HR0
  go_wp2_with fail
  refine (C.out).mono ?_; rintro e' w2 ⟨hg2, h2⟩
  clear C
  rcases h2 with ⟨hc1, rfl, hV2⟩ | ⟨hn, ev, rfl, he⟩
  · have S1 := Lib.hid (QS.start (vs := [.string nm, .int .i64 9, .int .i64 (σ.p : Nat), .int .i64 0, .int .i64 0, .string ⟨#[]⟩, .slice none 0 0]) HP.out BA.out IA.out (Nat.le_of_eq HRb.out) hg2 hV2)
    simp only [newVals]
    go_upto_region 2 with fail
    have S2 := Lib.hid (show QS W0 W G mo fm s Rb w2.heap.size σ1 f K [.string nm, .int .i64 9, .int .i64 (σ.p : Nat), .int .i64 0, .int .i64 0, .string ⟨#[]⟩, .slice none 0 0] (w2.alloc (.cells #[.string nm, .int .i64 9, .int .i64 (σ.p : Nat), .int .i64 0, .int .i64 0, .string ⟨#[]⟩, .slice none 0 0] 27)) from S1.out)
    generalize w2.alloc (.cells #[.string nm, .int .i64 9, .int .i64 (σ.p : Nat), .int .i64 0, .int .i64 0, .string ⟨#[]⟩, .slice none 0 0] 27) = w3 at *
    obtain ⟨X, hX⟩ : ∃ X, w2.heap.size = X := ⟨_, rfl⟩
    rw [hX] at S2 ⊢
    obtain ⟨hp1, hk1, hkk⟩ := hBf
    have hk2 := (hkk hc1).1
    have HC1 := Lib.hid hc1
    have hps : σ1.p ≤ s.size := by rw [hp1]; exact HP.out.p
    have hs3 := HP.out.hs
    have kK := HP.out.kK
    clear S1 BA IA hg2 hV2 hX hkk hc1
    have x8 := HC8.out w3 S2.out.g
    have hNm := S2.out.N.nms
    have hbd := evalF_bds (fun z hz => (hNm _ (Below.refl _ _) z hz).2) e HOK.out
    have C := Lib.hid (number_any e (.pointer pc) mo f HOK.out (ExAt.below S2.out.b0 e _ HEX.out) hNm)
    have hC0 : (evalF f e).2.1 = 0 → cntV (evalF f e) σ1 = σ1 := fun h => if_neg (fun q => q.2 h)
    have hC1 : (evalF f e).2.1 ≠ 0 → cntV (evalF f e) σ1 = ⟨σ1.p, σ1.k, (evalF f e).2.1, (evalF f e).2.2⟩ := fun h => if_pos ⟨HC1.out, h⟩
    obtain ⟨⟨n, qc, qa⟩, hq⟩ : ∃ q, evalF f e = q := ⟨_, rfl⟩
    rw [hq] at C HR hC0 hC1 hbd
    simp only at C HR hC0 hC1 hbd
    clear hq hNm
    go_wp2_with fail
    refine (C.out).mono ?_; rintro e' w4 ⟨hb4, h4⟩
    clear C x8
    rcases h4 with ⟨hq0, rfl⟩ | ⟨hn, ev, rfl, he⟩
    · have M4 := Lib.hid (MQ.start (S2.out.below hb4))
      rw [hC0 hq0] at HR
      clear hC0 hC1 hq0 hb4 S2
      by_cases hneg : n < 0
      · have el : lowV n σ1 = ⟨σ1.p, σ1.k, 3, (σ1.p : Int)⟩ := by unfold lowV; rw [if_pos hneg]; unfold wrV; exact if_pos HC1.out
        have HR4 := Lib.hid (show R.2.1.c = 3 ∧ R.2.1.a = (σ1.p : Int) by
          have h := HR.out
          rw [el, manyG_stop _ (show (⟨σ1.p, σ1.k, 3, (σ1.p : Int)⟩ : Vw).c ≠ 0 from (by decide : (3 : Int) ≠ 0))] at h
          rw [h]
          exact ⟨rfl, rfl⟩)
        have C := Lib.hid (pFail_any M4.out.q.V 3 (by decide))
        clear el
        go_wp2_with fail
        refine (C.out).mono ?_; rintro e' w5 ⟨⟨hn, ev, rfl, he⟩, hb⟩
        unfold thrown
        go_wp2_with fail
        exact ⟨rfl, thr_m (M4.out.q.g.trans (Gr.below hb)) HR4.out ⟨hn, ev, rfl, he⟩⟩
      · have el : lowV n σ1 = σ1 := if_neg hneg
        rw [el] at HR
        obtain ⟨N, rfl⟩ : ∃ N : Nat, n = (N : Int) := ⟨n.toNat, by omega⟩
        rw [Int.toNat_natCast] at HR
        obtain ⟨Q, hQ⟩ : ∃ Q, manyG (oneD ts s m) x N [] σ1 f = Q := ⟨_, rfl⟩
        rw [hQ] at HR
        have HQ := Lib.hid (show Q = manyG (oneD ts s m) x (N - 0) (([] : List Nv).map (·.1)) σ1 f from hQ.symm)
        have HD0 := Lib.hid (show Bnd s K (σ.k + 1) K 0 σ1 ∧ σ.k + 1 ≤ σ1.k ∧ σ1.c = 0 from ⟨⟨by omega, by omega, by omega, fun _ => by omega, hps, by omega⟩, by omega, HC1.out⟩)
        have hN := hbd.2
        clear el hbd hQ hps
        go_upto_region 5 with fail
        go_wp2_with fail
        go_loopw [23] (fun t wr2 => ∃ (i : Nat) (v1 : Vw) (f1 : Nf) (K1 : Nat) (kv : Value) (kids : List Nv), t = .int .i64 (i : Nat) ∧ i ≤ N ∧ Hid (MQ W0 W G mo fm s Rb X [.string nm, .int .i64 9, .int .i64 (σ.p : Nat), .int .i64 0, .int .i64 0, .string ⟨#[]⟩, kv] v1 f1 K1 kv kids wr2) ∧ Hid (Q = manyG (oneD ts s m) x (N - i) (kids.map (·.1)) v1 f1) ∧ Hid (Bnd s K (σ.k + 1) K1 kids.length v1 ∧ σ.k + 1 ≤ v1.k ∧ v1.c = 0)) (fun t _ => N - (intOf t).toNat)
        case atStart => exact ⟨0, σ1, f, K, _, [], rfl, Nat.zero_le _, M4, HQ, HD0⟩
        case round =>
          clear M4 HQ HD0
          obtain ⟨i, v1, f1, K1, kv, kids, rfl, hi, M5, HQ, HD⟩ := hrel
          by_cases hlt : i < N
          · have d1 : (i : Int) < (N : Int) := by omega
            have HQ2 := Lib.hid (show Q = manyG (oneD ts s m) x (N - (i + 1)) (kids.map (·.1) ++ [(oneD ts s m x v1 f1).1]) (oneD ts s m x v1 f1).2.1 (oneD ts s m x v1 f1).2.2 by
              rw [HQ.out, show N - i = (N - (i + 1)) + 1 by omega, manyG, if_neg (by simp [HD.out.2.2])])
            clear HQ
            go_wp2_with fail
            go_upto_region 7 with fail
            have MD := Lib.hid (M5.out.below (Below.refl _ _).drew)
            have c6 : wr.drew.cell? ⟨X, 6, none⟩ = some kv := MD.out.q.bx.cell 6
            obtain ⟨⟨d2, d3, d4, d5, d6, d7⟩, d8, d9⟩ := HD.out
            have C := Lib.hid (HH.out G mo v1 f1 K1 wr.drew x xb xo (MD.out.q.pp (by omega) (d5 d9) d9 d6 hs3) (HXP.out.gr MD.out.q.g) HW.out (by have := HK1.out; omega) (.inl HMo.out))
            obtain ⟨⟨⟨nm3, kd3, at3, sz3, n3, tx3, kl3⟩, σ3, f3⟩, hq3⟩ : ∃ q, oneD ts s m x v1 f1 = q := ⟨_, rfl⟩
            rw [hq3] at C HQ2
            simp only at HQ2
            clear hq3 M5
            refine Hld.run_region (fun w' => w'.cell? ⟨X, 6, none⟩ = some kv) 9 (by kernel_rfl) ?_
            have SH : wr.drew.cell? ⟨X, 6, none⟩ = some kv := c6
            clear c6
            generalize wr.drew = w7 at *
            refine Hld.Run.take (i := 0) (d := 11) (v := .pointer (some ⟨X, 6, none⟩)) rfl (by kernel_rfl) (by kernel_rfl) (by kernel_rfl) (by kernel_rfl) (by kernel_rfl) (by kernel_rfl) (fun _ _ _ h => h) (Or.inl ⟨by rfl, ?_⟩) SH ?_
            · intro w' hSw
              go_simp
            try simp only [Act.put]
            refine run_at #[true, false, false, false, false, false, false, false, false, false] (by kernel_rfl) ?_
            refine Hld.Run.take (i := 1) (d := 11) (v := kv) rfl (by kernel_rfl) (by kernel_rfl) (by kernel_rfl) (by kernel_rfl) (by kernel_rfl) (by kernel_rfl) (fun _ _ _ h => h) (Or.inl ⟨by rfl, ?_⟩) SH ?_
            · intro w' hSw
              go_simp
            try simp only [Act.put]
            refine run_at #[true, true, false, false, false, false, false, false, false, false] (by kernel_rfl) ?_
            refine Hld.Run.take (i := 2) (d := 11) (v := .pointer (some ⟨G, 0, none⟩)) rfl (by kernel_rfl) (by kernel_rfl) (by kernel_rfl) (by kernel_rfl) (by kernel_rfl) (by kernel_rfl) (fun _ _ _ h => h) (Or.inl ⟨by rfl, ?_⟩) SH ?_
            · intro w' hSw
              go_simp
            try simp only [Act.put]
            refine run_at #[true, true, true, false, false, false, false, false, false, false] (by kernel_rfl) ?_
            refine Hld.Run.take (i := 3) (d := 11) (v := .pointer (some ⟨xb, xo, none⟩)) rfl (by kernel_rfl) (by kernel_rfl) (by kernel_rfl) (by kernel_rfl) (by kernel_rfl) (by kernel_rfl) (fun _ _ _ h => h) (Or.inl ⟨by rfl, ?_⟩) SH ?_
            · intro w' hSw
              go_simp
            try simp only [Act.put]
            refine run_at #[true, true, true, true, false, false, false, false, false, false] (by kernel_rfl) ?_
            refine Hld.Run.take (i := 4) (d := 11) (v := .map mo) rfl (by kernel_rfl) (by kernel_rfl) (by kernel_rfl) (by kernel_rfl) (by kernel_rfl) (by kernel_rfl) (fun _ _ _ h => h) (Or.inl ⟨by rfl, ?_⟩) SH ?_
            · intro w' hSw
              go_simp
            try simp only [Act.put]
            refine run_at #[true, true, true, true, true, false, false, false, false, false] (by kernel_rfl) ?_
            refine Hld.Run.one (i := 5) (by kernel_rfl) rfl (fun C1 hC1 => ?_)
            go_simp
            go_at_call 40
            refine (C.out).mono ?_; rintro e' w8 ⟨hg, h8⟩
            rcases h8 with ⟨hc8, kv3, rfl, hV, hN8, h1, h2, h4, hF, a3, m3, c3, rfl⟩ | ⟨hn, ev, rfl, he⟩
            · simp only at hV hN8 h1 h2 h4 hF hc8
              have M8 := MD.out.gr hg hV hN8
              refine hC1 _ _ ⟨fun _ => M8.q.bx.cell 6, ?_⟩
              have G8 := Lib.hid hg
              have V8 := Lib.hid hV
              have N8 := Lib.hid hN8
              have F8 := Lib.hid hF
              have H8 := Lib.hid M8
              have D8 := Lib.hid (show v1.k + 1 ≤ σ3.k ∧ σ3.k ≤ 400 ∧ σ3.c = 0 ∧ σ3.p ≤ s.size from ⟨h1, h2, hc8, h4⟩)
              clear C hV hg hN8 h1 h2 h4 hF M8 hC1 C1 SH hc8
              simp only [ndVals]
              try simp only [Act.put]
              refine Hld.Run.one (i := 6) (by kernel_rfl) rfl (fun C2 hC2 => ?_)
              go_simp
              have bA : Below w8.heap.size w8 (w8.alloc (.cells #[.string nm3, .int .i64 kd3, .int .i64 (at3 : Nat), .int .i64 sz3, .int .i64 n3, .string tx3, .slice a3 m3 c3] 27)) := (Below.refl _ _).alloc (Nat.le_refl _) _
              have iA : (w8.alloc (.cells #[.string nm3, .int .i64 kd3, .int .i64 (at3 : Nat), .int .i64 sz3, .int .i64 n3, .string tx3, .slice a3 m3 c3] 27)).heap[w8.heap.size]? = some (.cells #[.string nm3, .int .i64 kd3, .int .i64 (at3 : Nat), .int .i64 sz3, .int .i64 n3, .string tx3, .slice a3 m3 c3] 27) := heap_alloc_new _ _
              have M9 := H8.out.below bA
              refine hC2 _ _ ⟨fun _ => M9.q.bx.cell 6, ?_⟩
              clear hC2 C2
              generalize w8.alloc (.cells #[.string nm3, .int .i64 kd3, .int .i64 (at3 : Nat), .int .i64 sz3, .int .i64 n3, .string tx3, .slice a3 m3 c3] 27) = w9 at *
              obtain ⟨B8, hB8⟩ : ∃ B, w8.heap.size = B := ⟨_, rfl⟩
              rw [hB8] at iA ⊢
              clear hB8
              have H9 := Lib.hid M9
              have B9 := Lib.hid bA
              have I9 := Lib.hid iA
              clear M9 bA iA
              try simp only [Act.put]
              refine Hld.Run.one (i := 7) (by kernel_rfl) rfl (fun C3 hC3 => ?_)
              refine ownN_append_step (by rfl) _ _ (by rfl) (X + 1) kv kids (by rfl) H9.out.own B8 1 (.mk nm3 kd3 at3 sz3 n3 tx3 kl3, .slice a3 m3 c3) (by rfl) I9.out rfl (by omega) (by have := H9.out.q.bx.lt; omega) ?_
              intro kv2 w10 ho hg10 _ hat
              obtain ⟨a9, c9, hv9⟩ := ho.len
              generalize (kids ++ [((Nd.mk nm3 kd3 at3 sz3 n3 tx3 kl3), (.slice a3 m3 c3 : Value))]).length = n9 at hv9
              subst hv9
              have M10 := MD.out.app G8.out V8.out N8.out F8.out B9.out hg10 ho hat
              refine hC3 _ _ ⟨fun _ => M10.q.bx.cell 6, ?_⟩
              have H10 := Lib.hid M10
              clear hC3 C3 ho hg10 hat M10 H9 I9 B9 H8 F8 N8 V8 G8 MD
              try simp only [Act.put]
              refine Hld.Run.one (i := 8) (by kernel_rfl) rfl (fun C4 hC4 => ?_)
              go_simp
              refine hC4 _ _ ⟨fun _ => H10.out.q.bx.cell 6, ?_⟩
              clear hC4 C4
              try simp only [Act.put]
              refine Hld.Run.one (i := 9) (by kernel_rfl) rfl (fun C5 hC5 => ?_)
              have x6 : w10.cell? ⟨X, 6, none⟩ = some kv := H10.out.q.bx.cell 6
              have f6 := H10.out.q.bx.free 6
              go_simp
              refine hC5 _ _ ⟨fun h => absurd rfl h, ?_⟩
              refine Hld.Run.done (by kernel_rfl) ?_ _
              clear hC5 C5
              have H11 := Lib.hid (show MQ W0 W G mo fm s Rb X [.string nm, .int .i64 9, .int .i64 (σ.p : Nat), .int .i64 0, .int .i64 0, .string ⟨#[]⟩, .slice a9 n9 c9] σ3 f3 (K1 + (σ3.k - (v1.k + 1))) (.slice a9 n9 c9) (kids ++ [(Nd.mk nm3 kd3 at3 sz3 n3 tx3 kl3, .slice a3 m3 c3)]) (w10.setCell ⟨X, 6, none⟩ (.slice a9 n9 c9)) from H10.out.set 6 (.slice a9 n9 c9))
              go_wp2_with fail
              go_roundw
              case rel =>
                obtain ⟨e1, e2, e3, e4⟩ := D8.out
                exact ⟨i + 1, σ3, f3, K1 + (σ3.k - (v1.k + 1)), .slice a9 n9 c9, kids ++ [(Nd.mk nm3 kd3 at3 sz3 n3 tx3 kl3, .slice a3 m3 c3)], by go_num, by omega, H11, Lib.hid (by rw [List.map_append]; exact HQ2.out), Lib.hid ⟨⟨by omega, by omega, by omega, fun _ => e2, e4, by simp; omega⟩, by omega, e3⟩⟩
              case measure => first | (simp [intOf]; done) | (simp [intOf]; omega)
            · have HR4 := Lib.hid (show R.2.1.c = σ3.c ∧ R.2.1.a = σ3.a by
                have h := HR.out
                rw [HQ2.out, manyG_stop _ hn] at h
                rw [h]
                exact ⟨rfl, rfl⟩)
              unfold thrown
              go_wp2_with fail
              exact ⟨rfl, thr_m (MD.out.q.g.trans hg) HR4.out ⟨hn, ev, rfl, he⟩⟩
          · have d1 : ¬ (i : Int) < (N : Int) := by omega
            have HQ2 := Lib.hid (show Q = (kids.map (·.1), v1, f1) by rw [HQ.out, show N - i = 0 by omega]; rfl)
            clear HQ
            go_wp2_with fail
            obtain ⟨a5, c5, rfl⟩ := M5.out.own.len
            obtain ⟨n5, hn5⟩ : ∃ n, kids.length = n := ⟨_, rfl⟩
            rw [hn5] at M5 HD
            clear hn5
            have y2 : wr.cell? ⟨G, 2, none⟩ = some (.int .i64 (v1.p : Nat)) := M5.out.q.V.c2
            have x2 : wr.cell? ⟨X, 2, none⟩ = some (.int .i64 (σ.p : Nat)) := M5.out.q.bx.cell 2
            have x3 : wr.cell? ⟨X, 3, none⟩ = some (.int .i64 0) := M5.out.q.bx.cell 3
            have f3' := M5.out.q.bx.free 3
            have hGX : ¬ G = X := by have := M5.out.q.hG; have := M5.out.q.hR; have := M5.out.q.hX; omega
            have hXG : ¬ X = G := by omega
            have hpσ := HP.out.p
            have hs1 : ¬ ((v1.p : Int) - (σ.p : Int) < -9223372036854775808) := by omega
            have hs2 : (v1.p : Int) ≤ 1000 := by have := HD.out.1.2.2.2.2.1; omega
            have hsw : wrap64 ((v1.p : Int) - (σ.p : Int)) = (v1.p : Int) - (σ.p : Int) := by unfold wrap64; omega
            obtain ⟨sz, hsz⟩ : ∃ z, (v1.p : Int) - (σ.p : Int) = z := ⟨_, rfl⟩
            have HSZ := Lib.hid hsz
            go_upto_region 9 with fail
            go_cut [] (fun wx => Hid (MQ W0 W G mo fm s Rb X [.string nm, .int .i64 9, .int .i64 (σ.p : Nat), .int .i64 sz, .int .i64 0, .string ⟨#[]⟩, .slice a5 n5 c5] v1 f1 K1 (.slice a5 n5 c5) kids wx))
            case first =>
              have M6 := Lib.hid (show MQ W0 W G mo fm s Rb X [.string nm, .int .i64 9, .int .i64 (σ.p : Nat), .int .i64 sz, .int .i64 0, .string ⟨#[]⟩, .slice a5 n5 c5] v1 f1 K1 (.slice a5 n5 c5) kids ((wr.setCell ⟨X, 3, none⟩ (.int .i64 sz)).drew) from (M5.out.set 3 (.int .i64 sz)).below (Below.refl _ _).drew)
              go_region
              all_goals
                go_wp2_with fail
                go_meet
                exact M6
            case rest =>
              have S6 := Lib.hid hcut.out
              clear hcut M5 y2 x2 x3 f3' hGX hXG hs1 hs2 hsw hsz
              have y0 : wc.cell? ⟨X, 0, none⟩ = some (.string nm) := S6.out.q.bx.cell 0
              have y1 : wc.cell? ⟨X, 1, none⟩ = some (.int .i64 9) := S6.out.q.bx.cell 1
              have y2 : wc.cell? ⟨X, 2, none⟩ = some (.int .i64 (σ.p : Nat)) := S6.out.q.bx.cell 2
              have y3 : wc.cell? ⟨X, 3, none⟩ = some (.int .i64 sz) := S6.out.q.bx.cell 3
              have y4 : wc.cell? ⟨X, 4, none⟩ = some (.int .i64 0) := S6.out.q.bx.cell 4
              have y5 : wc.cell? ⟨X, 5, none⟩ = some (.string ⟨#[]⟩) := S6.out.q.bx.cell 5
              have y6 : wc.cell? ⟨X, 6, none⟩ = some (.slice a5 n5 c5) := S6.out.q.bx.cell 6
              have r0 : wc.cell? ⟨Rb, 0, none⟩ = some (.string ⟨#[]⟩) := S6.out.q.rx.cell 0
              have r1 : wc.cell? ⟨Rb, 1, none⟩ = some (.int .i64 0) := S6.out.q.rx.cell 1
              have r2 : wc.cell? ⟨Rb, 2, none⟩ = some (.int .i64 0) := S6.out.q.rx.cell 2
              have r3 : wc.cell? ⟨Rb, 3, none⟩ = some (.int .i64 0) := S6.out.q.rx.cell 3
              have r4 : wc.cell? ⟨Rb, 4, none⟩ = some (.int .i64 0) := S6.out.q.rx.cell 4
              have r5 : wc.cell? ⟨Rb, 5, none⟩ = some (.string ⟨#[]⟩) := S6.out.q.rx.cell 5
              have r6 : wc.cell? ⟨Rb, 6, none⟩ = some (.slice none 0 0) := S6.out.q.rx.cell 6
              have g0 : ∀ j, wc.frozen? ⟨Rb, j, none⟩ = false := fun j => S6.out.q.rx.free j
              have HR6 := Lib.hid (show R = (.mk nm 9 σ.p sz 0 ⟨#[]⟩ (kids.map (·.1)), v1, f1) by
                have h := HR.out
                rw [HQ2.out] at h
                simp only [HSZ.out] at h
                exact h)
              obtain ⟨⟨q1, q2, q3, q4, q5, q6⟩, q7, q8⟩ := HD.out
              have HB6 := Lib.hid (show Bds s K σ.k K1 v1 from ⟨by omega, q7, q3, q4, q5⟩)
              go_wp2_with fail
              refine bodyPost_ret (pmany_results _ _ Rb (.string nm) (.int .i64 9) (.int .i64 (σ.p : Nat)) (.int .i64 sz) (.int .i64 0) (.string ⟨#[]⟩) (.slice a5 n5 c5) rfl (by go_simp) (by go_simp) (by go_simp) (by go_simp) (by go_simp) (by go_simp) (by go_simp)) rfl ?_
              exact S6.out.q.post S6.out.whole HR6.out q8 HB6.out _ _ _ _ _ _ _
    · have HR5 := Lib.hid (show R.2.1.c = qc ∧ R.2.1.a = qa by
        have h := HR.out
        rw [hC1 hn, lowV_stop (show (⟨σ1.p, σ1.k, qc, qa⟩ : Vw).c ≠ 0 from hn), manyG_stop _ (show (⟨σ1.p, σ1.k, qc, qa⟩ : Vw).c ≠ 0 from hn)] at h
        rw [h]
        exact ⟨rfl, rfl⟩)
      unfold thrown
      go_wp2_with fail
      exact ⟨rfl, thr_m (S2.out.g.trans (Gr.below hb4)) HR5.out ⟨hn, ev, rfl, he⟩⟩
  · have HR5 := Lib.hid (show R.2.1.c = σ1.c ∧ R.2.1.a = σ1.a by
      have h := HR.out
      rw [cntV_stop hn, lowV_stop hn, manyG_stop _ hn] at h
      rw [h]
      exact ⟨rfl, rfl⟩)
    unfold thrown
    go_wp2_with fail
    exact ⟨rfl, thr_m ((Gr.below BA.out).trans (Gr.of hg2 (gm_G G mo))) HR5.out ⟨hn, ev, rfl, he⟩⟩
end
end Go.Proofs.YtkopjmofdnlplaaGreatDoor.Ly
namespace Go.Proofs.YtkopjmofdnlplaaGreatDoor.Ly
open Go.RowKit Go.Proofs.YtkopjmofdnlplaaGreatDoor.Tm
/-- The parts so far, and the rest of the block. -/
def OutQ (W0 W : World) (G : Nat) (mo : Option Nat) (fm : Value) (s : ByteArray) (ts : List Ty) (m : Nat) (l : List It) (K k : Nat) (R : List Nd × Vw × Nf) (j : Nat) (ov : Value) (wr : World) : Prop :=
  ∃ (v : Vw) (f' : Nf) (K' : Nat) (out : List Nv), Hid (LQ W0 W G mo fm s v f' K' ov out wr) ∧ Hid (R = blkG (oneD ts s m) (l.drop j) (out.map (·.1)) v f') ∧ Hid (Bnd s K k K' out.length v ∧ v.c = 0) ∧ (∃ a n c, ov = .slice a n c)
section
variable {W0 : World} {ts : List Ty} {fm : Value} {s : ByteArray} {m : Nat}
theorem thr_b {W w' : World} {G : Nat} {mo : Option Nat} {K k : Nat} {R : List Nd × Vw × Nf} {e : Ending} {c a : Int} (g : Gr (GM G mo) W w') (hR : R.2.1.c = c ∧ R.2.1.a = a) (h : PThr w' c a e) : BkQ W G mo fm s K k R e w' := ⟨g, .inr (by rw [hR.1, hR.2]; exact h)⟩
theorem outQ_app {W w0 w1 w2 w3 : World} {G k K K' K1 j : Nat} {mo : Option Nat} {l : List It} {R : List Nd × Vw × Nf} {v v1 : Vw} {f' f1 : Nf} {ov ov2 : Value} {out : List Nv} {p : Nv} (S : LQ W0 W G mo fm s v f' K' ov out w0)
    (hr : R = blkG (oneD ts s m) (l.drop (j + 1)) (out.map (·.1) ++ [p.1]) v1 f1) (g1 : Gr (GM G mo) w0 w1) (V1 : PV G fm s v1 w1) (N1 : NmW w1 mo f1 K1) (hp : NdF w0.heap.size w1 p.1 p.2) (hb : Bnd s K k K1 (out.length + 1) v1) (hc : v1.c = 0)
    (g2 : Below w1.heap.size w1 w2) (g3 : w2.grownBy w3 ov.ownBlock) (ho : OwnN w3 W.heap.size ov2 (out ++ [p])) (hat : ov2.ownBlock = ov.ownBlock ∨ ov2.ownBlock = some w2.heap.size) : OutQ W0 W G mo fm s ts m l K k R (j + 1) ov2 w3 := by
  obtain ⟨a, c, e⟩ := ho.len
  exact ⟨v1, f1, K1, out ++ [p], Lib.hid (S.app g1 V1 N1 hp g2 g3 ho hat), Lib.hid (by rw [List.map_append]; exact hr), Lib.hid ⟨by rw [List.length_append]; exact hb, hc⟩, _, _, _, e⟩
set_option maxRecDepth 100000 in
set_option maxHeartbeats 8000000 in
theorem pitems_any (HO : OneQ W0 ts fm s m) : BlkQ W0 ts fm s m := by
  intro G mo σ f K W l lv P hl hw hm hmo h16
  have HMo := Lib.hid hmo
  have HI := Lib.hid hl
  obtain ⟨pa, ca, rfl, hla, _⟩ := hl
  have HH := Lib.hid HO
  have HM := Lib.hid (pmany_any HO)
  have HW := Lib.hid hw
  obtain ⟨R, hR⟩ : ∃ R, blkD ts s m l σ f = R := ⟨_, rfl⟩
  rw [hR]
  have HR := Lib.hid (show R = blkG (oneD ts s m) (l.drop 0) (([] : List Nv).map (·.1)) σ f from hR.symm)
  have S0 := Lib.hid (LQ.start P)
  have Hs := Lib.hid P.hs
  have HK := Lib.hid P.kK
  have B0 := Lib.hid (show Bnd s K σ.k K ([] : List Nv).length σ ∧ σ.c = 0 from ⟨⟨by omega, Nat.le_refl _, by have := P.k; omega, fun _ => P.k, P.p, Nat.zero_le _⟩, P.c⟩)
  obtain ⟨k0, hk0⟩ : ∃ k, σ.k = k := ⟨_, rfl⟩
  rw [hk0] at B0 hm HK ⊢
  have Hm := Lib.hid hm
  clear P hw HO hR hm hk0 hmo
  go_enter Tryz.func83, Tryz.ntmps83
  go_wp2_with fail
  go_loopw [7, 13] (fun t i wr => ∃ (j : Nat), i = .int .i64 (j : Nat) ∧ j ≤ l.length ∧ OutQ W0 W G mo fm s ts m l K k0 R j t wr) (fun _ i _ => l.length - (intOf i).toNat)
  case atStart => exact ⟨0, rfl, Nat.zero_le _, σ, f, K, [], S0, HR, B0, _, _, _, rfl⟩
  case round =>
    clear S0 HR B0
    obtain ⟨j, rfl, hj, v, f', K', out, S1, HR1, hb, -⟩ := hrel
    obtain ⟨a, c, rfl⟩ := S1.out.own.len
    by_cases hlt : j < l.length
    · obtain ⟨b, o, cv, iv, rfl, hcx, hit⟩ := its_at HI.out j hlt
      have HWx := Lib.hid (wfL_mem HW.out l[j] (List.getElem_mem hlt))
      obtain ⟨x, hx⟩ : ∃ x, l[j] = x := ⟨_, rfl⟩
      have hxl := Lib.hid hx
      rw [hx] at hcx hit HWx
      have HXP := Lib.hid (show ItP W0 x b (o + j * 13) from ⟨cv, iv, hcx, hit⟩)
      clear hit hx
      have i1 : (0 : Int) ≤ (j : Int) := by omega
      have i2 : (j : Int) < (l.length : Int) := by omega
      obtain ⟨mn, hmn⟩ : ∃ b, x.many = b := ⟨_, rfl⟩
      obtain ⟨kd, hkd⟩ : ∃ b, x.kind = b := ⟨_, rfl⟩
      obtain ⟨nm, hnm⟩ : ∃ b, x.name = b := ⟨_, rfl⟩
      have z7 : wr.cell? ⟨b, o + j * 13 + 7, none⟩ = some (.bool mn) := by rw [← hmn]; exact keepCell S1.out.b0 (hcx 7 _ rfl)
      have HC0 := Lib.hid (fun (w : World) (hb : Below W0.heap.size W0 w) => show w.cell? ⟨b, o + j * 13, none⟩ = some (.int .i64 kd) by rw [← hkd]; exact keepCell hb (hcx 0 _ rfl))
      have HC2 := Lib.hid (fun (w : World) (hb : Below W0.heap.size W0 w) => show w.cell? ⟨b, o + j * 13 + 2, none⟩ = some (.string nm) by rw [← hnm]; exact keepCell hb (hcx 2 _ rfl))
      obtain ⟨xo, hxo⟩ : ∃ q, o + j * 13 = q := ⟨_, rfl⟩
      have HXO := Lib.hid hxo
      rw [hxo] at z7 HC0 HC2 HXP
      have hvc := hb.out.2
      have HR2 := Lib.hid (HR1.out.trans (blk_next hlt hxl.out hvc))
      have hW1 := (wfI_iff _).1 HWx.out
      have hnm1 := hW1.1.names.1
      rw [hnm] at hnm1
      have hG0 := S1.out.hG
      have hm0 := S1.out.hm
      have hS := gm_lt hG0 fun b hb => (hm0 b hb).1
      have hz0 := S1.out.g.size
      clear hcx HR1
      have PPx := Lib.hid (S1.out.pp (by obtain ⟨⟨b1, b2, b3, b4, b5, b6⟩, _⟩ := hb.out; have := HK.out; omega) (hb.out.1.2.2.2.1 hvc) hvc hb.out.1.2.2.2.2.1 Hs.out)
      have hm1 : 401 ≤ m + v.k := by have := Hm.out; have := hb.out.1.2.1; omega
      cases mn with
      | true =>
        have C := Lib.hid (HM.out G mo v f' K' wr x b xo PPx.out (HXP.out.q S1.out.b0 S1.out.lG S1.out.lm) HWx.out hm1 HMo.out hmn)
        have hpt : partG (oneD ts s m) x v f' = listG (oneD ts s m) x v f' := by unfold partG; rw [if_pos hmn]
        rw [hpt] at HR2
        obtain ⟨⟨⟨nm3, kd3, at3, sz3, n3, tx3, kl3⟩, σ3, f3⟩, hq⟩ : ∃ q, listG (oneD ts s m) x v f' = q := ⟨_, rfl⟩
        rw [hq] at C HR2
        clear hq hpt
        go_wp2_with fail
        refine (C.out).mono ?_; rintro e' w3 ⟨hg, h3⟩
        clear C
        rcases h3 with ⟨hc3, kv, rfl, hV, hN, h1, h2, h4, hF, a3, m3, c3, rfl⟩ | ⟨hn, ev, rfl, he⟩
        · simp only at hV hN h1 h2 h4 hF hc3
          simp only [ndVals, List.toArray]
          have HR3 := HR2
          have g5 := Lib.hid hg
          have V5 := Lib.hid hV
          have N5 := Lib.hid hN
          have F5 := Lib.hid hF
          have Hh := Lib.hid (show v.k + 1 ≤ σ3.k ∧ σ3.k ≤ 400 ∧ σ3.c = 0 ∧ σ3.p ≤ s.size from ⟨h1, h2, hc3, h4⟩)
          clear hV hg hN h1 h2 h4 hF hc3 HR2
          have O5 := Lib.hid ((S1.out.gr g5.out V5.out N5.out).own)
          have L5 := Lib.hid (show out.length + 1 ≤ 1000000 by have := hb.out.1.2.2.2.2.2; have := hb.out.1.2.2.1; omega)
          have Z5 := Lib.hid (show W.heap.size ≤ w3.heap.size from Nat.le_trans hz0 g5.out.size)
          go_wp2_with (at_builtin; refine ownN_append1 rfl _ _ rfl W.heap.size (.slice a out.length c) out rfl (O5.out.alloc _) _ 1 (.mk nm3 kd3 at3 sz3 n3 tx3 kl3, .slice a3 m3 c3) rfl (heap_alloc_new _ _) rfl L5.out (by have := Z5.out; simp; omega) ?_; intro v8 w8 ho8 hg8 hb8 hat8; have O8 := Lib.hid ho8; have G8 := Lib.hid hg8; have B8 := Lib.hid hb8; have AT8 := Lib.hid hat8; clear ho8 hg8 hb8 hat8)
          go_roundw
          case rel =>
            have bb : Below w3.heap.size w3 (w3.alloc (.cells #[.string nm3, .int .i64 kd3, .int .i64 (at3 : Nat), .int .i64 sz3, .int .i64 n3, .string tx3, .slice a3 m3 c3] 27)) := (Below.refl _ _).alloc (Nat.le_refl _) _
            obtain ⟨q1, q2, q3, q4⟩ := Hh.out
            obtain ⟨⟨b1, b2, b3, b4, b5, b6⟩, b7⟩ := hb.out
            exact ⟨j + 1, by go_num, hlt, outQ_app (p := (.mk nm3 kd3 at3 sz3 n3 tx3 kl3, .slice a3 m3 c3)) S1.out HR3.out g5.out V5.out N5.out F5.out ⟨by omega, by omega, by omega, fun _ => q2, q4, by omega⟩ q3 bb G8.out O8.out AT8.out⟩
          case measure => first | (simp [intOf]; done) | (simp [intOf]; omega)
        · have HR4 := Lib.hid (show R.2.1.c = σ3.c ∧ R.2.1.a = σ3.a by
            have h := HR2.out
            rw [h, blkG_stop _ hn]
            exact ⟨rfl, rfl⟩)
          unfold thrown
          go_wp2_with fail
          exact ⟨rfl, thr_b (S1.out.g.trans hg) HR4.out ⟨hn, ev, rfl, he⟩⟩
      | false =>
        have hBd := Lib.hid (fun h1 => oneD_bds (ts := ts) (s := s) (m := m) (x := x) (v := v) (f := f') h1 (hW1.1.wide h1))
        have C := Lib.hid (HH.out G mo v f' K' wr x b xo PPx.out (HXP.out.q S1.out.b0 S1.out.lG S1.out.lm) HWx.out hm1 (.inl HMo.out))
        obtain ⟨⟨⟨nm3, kd3, at3, sz3, n3, tx3, kl3⟩, σ3, f3⟩, hq⟩ : ∃ q, oneD ts s m x v f' = q := ⟨_, rfl⟩
        have hpt : partG (oneD ts s m) x v f' = (.mk nm3 kd3 at3 sz3 n3 tx3 kl3, σ3, if kd = 1 then putN f3 nm n3 else f3) := by
          unfold partG
          rw [if_neg (by rw [hmn]; decide), hq, hkd, hnm]
          rfl
        rw [hpt] at HR2
        rw [hq, hkd] at hBd
        rw [hq] at C
        clear hq hpt
        go_wp2_with fail
        refine (C.out).mono ?_; rintro e' w3 ⟨hg, h3⟩
        clear C
        rcases h3 with ⟨hc3, kv, rfl, hV, hN, h1, h2, h4, hF, a3, m3, c3, rfl⟩ | ⟨hn, ev, rfl, he⟩
        · simp only at hV hN h1 h2 h4 hF hc3
          simp only [ndVals, List.toArray]
          go_upto_region 9 with fail
          have bA : Below w3.heap.size w3 (w3.alloc (.cells #[.string nm3, .int .i64 kd3, .int .i64 (at3 : Nat), .int .i64 sz3, .int .i64 n3, .string tx3, .slice a3 m3 c3] 27)) := (Below.refl _ _).alloc (Nat.le_refl _) _
          have iA : NB (w3.alloc (.cells #[.string nm3, .int .i64 kd3, .int .i64 (at3 : Nat), .int .i64 sz3, .int .i64 n3, .string tx3, .slice a3 m3 c3] 27)) w3.heap.size [.string nm3, .int .i64 kd3, .int .i64 (at3 : Nat), .int .i64 sz3, .int .i64 n3, .string tx3, .slice a3 m3 c3] := NB.new _ _
          generalize w3.alloc (.cells #[.string nm3, .int .i64 kd3, .int .i64 (at3 : Nat), .int .i64 sz3, .int .i64 n3, .string tx3, .slice a3 m3 c3] 27) = w4 at *
          obtain ⟨X, hX⟩ : ∃ X, w3.heap.size = X := ⟨_, rfl⟩
          rw [hX] at iA ⊢
          have HXl := Lib.hid (show W.heap.size ≤ X by have := hg.size; omega)
          have g4 := Lib.hid (hg.trans (Gr.below bA))
          have V4 := Lib.hid (hV.below bA)
          have N4 := Lib.hid (hN.below bA)
          have F4 := Lib.hid (Fw.gr hF (Gr.below (S := fun _ => False) bA) (fun _ h => h.elim))
          have Hh := Lib.hid (show v.k + 1 ≤ σ3.k ∧ σ3.k ≤ 400 ∧ σ3.c = 0 ∧ σ3.p ≤ s.size from ⟨h1, h2, hc3, h4⟩)
          have X4 := Lib.hid iA
          have b4 := (S1.out.gr g4.out V4.out N4.out).b0
          have t0 := HC0.out w4 b4
          have t2 := HC2.out w4 b4
          clear hV hg hN h1 h2 h4 hF hc3 bA iA hX b4
          by_cases h1 : kd = 1
          · subst h1
            have x4 : w4.cell? ⟨X, 4, none⟩ = some (.int .i64 n3) := X4.out.cell 4
            have HR3 := Lib.hid (by have h := HR2.out; rw [if_pos rfl] at h; exact h)
            obtain ⟨w5, hput, hN5, hg5⟩ := (N4.out.below (Below.refl w4.heap.size w4).drew).put HMo.out (by obtain ⟨⟨b1, b2, b3, b4, b5, b6⟩, _⟩ := hb.out; have := HK.out; have := Hh.out.2.1; omega) nm hnm1 n3 (hBd.out rfl)
            have gD : Gr (GM G mo) w4 w4.drew := Gr.below (Below.refl _ _).drew
            have gM : Gr (GM G mo) w4 w5 := gD.trans ⟨hg5.os, hg5.tape, hg5.output, hg5.size, fun k hk hn => hg5.block k hk (fun e => hn (.inr e))⟩
            have g5 := Lib.hid (g4.out.trans gM)
            have V5 := Lib.hid (V4.out.drew'.block (hg5.block G V4.out.lt (fun e => (hm0 G e.symm).2 rfl)))
            have N5 := Lib.hid hN5
            have F5 := Lib.hid (Fw.gr F4.out gM (fun k hk => by have := hS k hk; omega))
            have X5 := Lib.hid (X4.out.gr gM (fun hk => by have := hS X hk; have := HXl.out; omega))
            clear hN5 hg5 gM gD HR2 N4 g4 V4 F4 hBd
            have t2d : w4.drew.cell? ⟨b, xo + 2, none⟩ = some (.string nm) := t2
            have x4d : w4.drew.cell? ⟨X, 4, none⟩ = some (.int .i64 n3) := x4
            go_upto_region 10 with fail
            go_still_tail 7, (by kernel_rfl)
            go_upto_region 11 with fail
            have x0 : w5.cell? ⟨X, 0, none⟩ = some (.string nm3) := X5.out.cell 0
            have x1 : w5.cell? ⟨X, 1, none⟩ = some (.int .i64 kd3) := X5.out.cell 1
            have x2 : w5.cell? ⟨X, 2, none⟩ = some (.int .i64 (at3 : Nat)) := X5.out.cell 2
            have x3 : w5.cell? ⟨X, 3, none⟩ = some (.int .i64 sz3) := X5.out.cell 3
            have x4 : w5.cell? ⟨X, 4, none⟩ = some (.int .i64 n3) := X5.out.cell 4
            have x5 : w5.cell? ⟨X, 5, none⟩ = some (.string tx3) := X5.out.cell 5
            have x6 : w5.cell? ⟨X, 6, none⟩ = some (.slice a3 m3 c3) := X5.out.cell 6
            have O5 := Lib.hid ((S1.out.gr g5.out V5.out N5.out).own)
            have L5 := Lib.hid (show out.length + 1 ≤ 1000000 by have := hb.out.1.2.2.2.2.2; have := hb.out.1.2.2.1; omega)
            have Z5 := Lib.hid (show W.heap.size ≤ w5.heap.size from Nat.le_trans hz0 g5.out.size)
            go_wp2_with (at_builtin; refine ownN_append1 rfl _ _ rfl W.heap.size (.slice a out.length c) out rfl (O5.out.alloc _) _ 1 (.mk nm3 kd3 at3 sz3 n3 tx3 kl3, .slice a3 m3 c3) rfl (heap_alloc_new _ _) rfl L5.out (by have := Z5.out; simp; omega) ?_; intro v8 w8 ho8 hg8 hb8 hat8; have O8 := Lib.hid ho8; have G8 := Lib.hid hg8; have B8 := Lib.hid hb8; have AT8 := Lib.hid hat8; clear ho8 hg8 hb8 hat8)
            go_roundw
            case rel =>
              have bb : Below w5.heap.size w5 (w5.alloc (.cells #[.string nm3, .int .i64 kd3, .int .i64 (at3 : Nat), .int .i64 sz3, .int .i64 n3, .string tx3, .slice a3 m3 c3] 27)) := (Below.refl _ _).alloc (Nat.le_refl _) _
              obtain ⟨q1, q2, q3, q4⟩ := Hh.out
              obtain ⟨⟨b1, b2, b3, b4, b5, b6⟩, b7⟩ := hb.out
              exact ⟨j + 1, by go_num, hlt, outQ_app (p := (.mk nm3 kd3 at3 sz3 n3 tx3 kl3, .slice a3 m3 c3)) S1.out HR3.out g5.out V5.out N5.out F5.out ⟨by omega, by omega, by omega, fun _ => q2, q4, by omega⟩ q3 bb G8.out O8.out AT8.out⟩
            case measure => first | (simp [intOf]; done) | (simp [intOf]; omega)
          · have e1 : (kd == 1) = false := by simpa using h1
            have HR3 := Lib.hid (by have h := HR2.out; rw [if_neg h1] at h; exact h)
            have g5 := g4
            have V5 := V4
            have N5 := N4
            have F5 := F4
            have X5 := X4
            clear HR2 hBd
            have x0 : w4.cell? ⟨X, 0, none⟩ = some (.string nm3) := X5.out.cell 0
            have x1 : w4.cell? ⟨X, 1, none⟩ = some (.int .i64 kd3) := X5.out.cell 1
            have x2 : w4.cell? ⟨X, 2, none⟩ = some (.int .i64 (at3 : Nat)) := X5.out.cell 2
            have x3 : w4.cell? ⟨X, 3, none⟩ = some (.int .i64 sz3) := X5.out.cell 3
            have x4 : w4.cell? ⟨X, 4, none⟩ = some (.int .i64 n3) := X5.out.cell 4
            have x5 : w4.cell? ⟨X, 5, none⟩ = some (.string tx3) := X5.out.cell 5
            have x6 : w4.cell? ⟨X, 6, none⟩ = some (.slice a3 m3 c3) := X5.out.cell 6
            have O5 := Lib.hid ((S1.out.gr g5.out V5.out N5.out).own)
            have L5 := Lib.hid (show out.length + 1 ≤ 1000000 by have := hb.out.1.2.2.2.2.2; have := hb.out.1.2.2.1; omega)
            have Z5 := Lib.hid (show W.heap.size ≤ w4.heap.size from Nat.le_trans hz0 g5.out.size)
            go_wp2_with (at_builtin; refine ownN_append1 rfl _ _ rfl W.heap.size (.slice a out.length c) out rfl (O5.out.alloc _) _ 1 (.mk nm3 kd3 at3 sz3 n3 tx3 kl3, .slice a3 m3 c3) rfl (heap_alloc_new _ _) rfl L5.out (by have := Z5.out; simp; omega) ?_; intro v8 w8 ho8 hg8 hb8 hat8; have O8 := Lib.hid ho8; have G8 := Lib.hid hg8; have B8 := Lib.hid hb8; have AT8 := Lib.hid hat8; clear ho8 hg8 hb8 hat8)
            go_roundw
            case rel =>
              have bb : Below w4.heap.size w4 (w4.alloc (.cells #[.string nm3, .int .i64 kd3, .int .i64 (at3 : Nat), .int .i64 sz3, .int .i64 n3, .string tx3, .slice a3 m3 c3] 27)) := (Below.refl _ _).alloc (Nat.le_refl _) _
              obtain ⟨q1, q2, q3, q4⟩ := Hh.out
              obtain ⟨⟨b1, b2, b3, b4, b5, b6⟩, b7⟩ := hb.out
              exact ⟨j + 1, by go_num, hlt, outQ_app (p := (.mk nm3 kd3 at3 sz3 n3 tx3 kl3, .slice a3 m3 c3)) S1.out HR3.out g5.out V5.out N5.out F5.out ⟨by omega, by omega, by omega, fun _ => q2, q4, by omega⟩ q3 bb G8.out O8.out AT8.out⟩
            case measure => first | (simp [intOf]; done) | (simp [intOf]; omega)
        · have HR4 := Lib.hid (show R.2.1.c = σ3.c ∧ R.2.1.a = σ3.a by
            have h := HR2.out
            rw [h, blkG_stop _ hn]
            exact ⟨rfl, rfl⟩)
          unfold thrown
          go_wp2_with fail
          exact ⟨rfl, thr_b (S1.out.g.trans hg) HR4.out ⟨hn, ev, rfl, he⟩⟩
    · have d1 : ¬ (j : Int) < (l.length : Int) := by omega
      have HR2 := Lib.hid (show R = (out.map (·.1), v, f') by rw [HR1.out, List.drop_of_length_le (by omega)]; rfl)
      clear HR1
      go_wp2_with fail
      go_ret
      obtain ⟨⟨b1, b2, b3, b4, b5, _⟩, bc⟩ := hb.out
      refine ⟨S1.out.g, .inl ?_⟩
      rw [HR2.out]
      exact ⟨bc, _, rfl, S1.out.V, S1.out.N.mono b1, b2, b4 bc, b5, S1.out.whole, _, _, _, rfl⟩
end
end Go.Proofs.YtkopjmofdnlplaaGreatDoor.Ly
