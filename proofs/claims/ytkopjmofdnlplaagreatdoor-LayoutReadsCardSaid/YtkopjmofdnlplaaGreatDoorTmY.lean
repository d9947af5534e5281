/-
  PROVED HERE: the contract of the document's exprNames; the contract of the document's search for a name that is not seen. Conditions: as each theorem states.
-/
import Derived.Test.YtkopjmofdnlplaaGreatDoorTmU
import Derived.Deep.RegionLaw
namespace Go.Proofs.YtkopjmofdnlplaaGreatDoor.Tm
open Go.RowKit Go.Proofs.YtkopjmofdnlplaaGreatDoor.Lex Go.Proofs.YtkopjmofdnlplaaGreatDoor.Dig
/-- The names in an expression, from the left, each with its place. -/
def exN : Ex → List (Nat × ByteArray)
  | .num _ _ => []
  | .nam k s => [(k, s)]
  | .bin _ _ l r => exN l ++ exN r
theorem exN_len (x : Ex) : (exN x).length ≤ leaves x := by
  induction x with
  | num k n => simp [exN]
  | nam k s => simp [exN, leaves]
  | bin k op l r ihl ihr => simp only [exN, leaves, List.length_append]; omega
/-- The pointer v shows a name. -/
def NmAt (w : World) (v : Value) (n : Nat × ByteArray) : Prop := ∃ g, v = .pointer (some ⟨g, 0, none⟩) ∧ w.heap[g]? = some (exCells 2 n.1 0 n.2 emp (.pointer none) (.pointer none))
def NmsAt (w : World) : List Value → List (Nat × ByteArray) → Prop
  | [], [] => True
  | v :: vs, n :: ns => NmAt w v n ∧ NmsAt w vs ns
  | _, _ => False
theorem NmsAt.len {w : World} : ∀ {vs : List Value} {ns : List (Nat × ByteArray)}, NmsAt w vs ns → vs.length = ns.length
  | [], [], _ => rfl
  | _ :: vs, _ :: ns, h => by rw [List.length_cons, List.length_cons, NmsAt.len h.2]
theorem NmsAt.one {w : World} : ∀ {vs : List Value} {ns : List (Nat × ByteArray)}, NmsAt w vs ns → ∀ v ∈ vs, v.oneCell' = true
  | [], [], _ => fun _ h => by simp at h
  | _ :: vs, _ :: ns, h => fun v hv => by
    rcases List.mem_cons.1 hv with rfl | hv
    · obtain ⟨⟨g, rfl, _⟩, _⟩ := h; rfl
    · exact NmsAt.one h.2 v hv
theorem NmsAt.app {w : World} {us : List Value} {ms : List (Nat × ByteArray)} (h2 : NmsAt w us ms) : ∀ {vs : List Value} {ns : List (Nat × ByteArray)}, NmsAt w vs ns → NmsAt w (vs ++ us) (ns ++ ms)
  | [], [], _ => h2
  | _ :: _, _ :: _, h => ⟨h.1, NmsAt.app h2 h.2⟩
theorem NmsAt.get {w : World} : ∀ {vs : List Value} {ns : List (Nat × ByteArray)}, NmsAt w vs ns → ∀ j (h : j < ns.length), ∃ v, vs[j]? = some v ∧ NmAt w v ns[j]
  | [], [], _, j, h => by simp at h
  | v :: vs, n :: ns, h, 0, _ => ⟨v, rfl, h.1⟩
  | v :: vs, n :: ns, h, j + 1, hj => by
    obtain ⟨u, h1, h2⟩ := NmsAt.get h.2 j (by simpa using hj)
    exact ⟨u, by simpa using h1, by simpa using h2⟩
theorem nmsAt_below {w w' : World} (hb : Below w.heap.size w w') : ∀ {vs : List Value} {ns : List (Nat × ByteArray)}, NmsAt w vs ns → NmsAt w' vs ns
  | [], [], _ => trivial
  | _ :: _, _ :: _, h => ⟨by obtain ⟨g, e, hg⟩ := h.1; exact ⟨g, e, (hb.block g (Array.getElem?_eq_some_iff.1 hg).1).trans hg⟩, nmsAt_below hb h.2⟩
section
variable {w : World}
theorem qu_append_step {ops : Array Oper} {o : Oper} {a : Act} {K : Act → World → Prop} {Q : Exit → Act → World → Prop} {F : Prop} (hgd : o.guard = none) (s x : Operand) (T : Nat)
    (ho : o.op = .call { callee := .builtin .append, args := #[s, x], argTypes := #[T, T] })
    (B E : Nat) (z : Value) (bytes : Nat) (ht : Tryz.prog.underlying T = some (.slice E)) (hinfo : (Tryz.prog.info? E).map (fun i => (i.zero, i.size, i.bytes)) = some (some z, 1, bytes)) (hzs : z.cells.size = 1)
    (v : Value) (xs : List Value) (hs : a.eval s = v) (hv : Qu w B v xs)
    (y : Value) (news : List Value) (hx : a.eval x = y) (hsrc : Src Tryz.prog 1 T y news.length news w)
    (hlen : (xs.length + news.length) * bytes ≤ 1000000000000) (hlen2 : xs.length + news.length ≤ 1000000000000) (hbase : B ≤ w.heap.size)
    (h : ∀ v' w', Qu w' B v' (xs ++ news) → Below B w w' → w.grownBy w' v.ownBlock → K (a.put o.dst v') w') :
    if Region.wanted o (yielded ops a.tmps) = true then Oper.wp Tryz.prog o a w K Q else F := by
  have hw : Region.wanted o (yielded ops a.tmps) = true := by simp [Region.wanted, hgd]
  rw [if_pos hw]
  obtain ⟨i, hi, hz0, hz1, hz2⟩ := info_parts hinfo
  obtain ⟨v', w', hr, h2, h3, h4⟩ := qu_append (P := Tryz.prog) (ty := o.type) hv ht hi hz0 hz1 hzs hsrc (by rw [hz2]; omega) (by unfold maxLen; omega) hbase
  unfold Oper.wp execOp
  simp only [ho, resolve, invoke, builtin, Sem.run_bind, Sem.run_pure, Result.andThen_ok, List.map_toArray, List.map_cons, List.map_nil, hs, hx, hr]
  exact h v' w' h2 h3 h4
end
def EnP (W0 W : World) (ns : List (Nat × ByteArray)) (e : Ending) (w' : World) : Prop := ∃ u vs, e = .returned u ∧ Qu w' W.heap.size u vs ∧ NmsAt W0 vs ns ∧ Below W.heap.size W w'
section
variable {W : World}
theorem en_nil {W0 : World} : EnP W0 W [] (.returned (.slice none 0 0)) W := ⟨_, [], rfl, .inl ⟨rfl, rfl⟩, trivial, Below.refl _ _⟩
set_option maxRecDepth 100000 in
theorem names_none {W0 : World} : Calls Tryz.prog 114 #[.pointer none] W (EnP W0 W []) := by
  go_enter Tryz.func114, Tryz.ntmps114
  go_wp2_with fail
  go_ret
  exact en_nil
theorem ex_cells {g : Nat} {cs : List Value} (h : W.heap[g]? = some (.cells cs.toArray 177)) (j : Nat) : W.cell? ⟨g, j, none⟩ = cs[j]? := by
  unfold World.cell?
  rw [h]
  simp
set_option maxRecDepth 100000 in
set_option maxHeartbeats 2000000 in
theorem names_any {W0 : World} (x : Ex) : ∀ (v : Value) (W : World), ExAt W0 x v → Below W0.heap.size W0 W → leaves x ≤ 4000 → Calls Tryz.prog 114 #[v] W (EnP W0 W (exN x)) := by
  induction x with
  | num k n =>
    intro v W h hbw _
    unfold ExAt at h
    obtain ⟨g, rfl, hb⟩ := h
    have c0 : W.cell? ⟨g, 0, none⟩ = some (.int .i64 1) := keepCell hbw (ex_cells (cs := [_, _, _, _, _, _, _]) hb 0)
    clear hb hbw
    go_enter Tryz.func114, Tryz.ntmps114
    go_wp2_with fail
    go_ret
    exact en_nil
  | nam k s =>
    intro v W h hbw _
    unfold ExAt at h
    obtain ⟨g, rfl, hb⟩ := h
    have HB := Lib.hid hb
    have c0 : W.cell? ⟨g, 0, none⟩ = some (.int .i64 2) := keepCell hbw (ex_cells (cs := [_, _, _, _, _, _, _]) hb 0)
    clear hb hbw
    go_enter Tryz.func114, Tryz.ntmps114
    go_wp2_with fail
    go_ret
    exact ⟨_, [.pointer (some ⟨g, 0, none⟩)], rfl, .inr ⟨W.heap.size, 0, 1, rfl, Nat.le_refl _, by simp, Nat.le_refl _, fun j hj => by
      obtain rfl : j = 0 := by omega
      exact ⟨by rw [new_cell]; rfl, by unfold World.frozen?; rw [heap_alloc_new]; simp⟩, fun j u hu => by
      rcases j with _ | j
      · simp at hu; subst hu; exact new_cell _ _ _
      · simp at hu⟩, ⟨⟨g, rfl, HB.out⟩, trivial⟩, (Below.refl _ _).alloc (Nat.le_refl _) _⟩
  | bin k op l r ihl ihr =>
    intro v W h hbw hl
    unfold ExAt at h
    obtain ⟨g, a, b, rfl, hb, hla, hrb⟩ := h
    obtain ⟨pa, rfl⟩ := ex_ptr hla
    obtain ⟨pb, rfl⟩ := ex_ptr hrb
    have c0 : W.cell? ⟨g, 0, none⟩ = some (.int .i64 3) := keepCell hbw (ex_cells (cs := [_, _, _, _, _, _, _]) hb 0)
    have c5 : W.cell? ⟨g, 5, none⟩ = some (.pointer pa) := keepCell hbw (ex_cells (cs := [_, _, _, _, _, _, _]) hb 5)
    have c6 : W.cell? ⟨g, 6, none⟩ = some (.pointer pb) := keepCell hbw (ex_cells (cs := [_, _, _, _, _, _, _]) hb 6)
    simp only [leaves] at hl
    have HL := Lib.hid hla
    have HR := Lib.hid hrb
    have HW := Lib.hid hbw
    have l1 := exN_len l
    have l2 := exN_len r
    have IL := Lib.hid (fun W2 (hb : Below W.heap.size W W2) => ihl (.pointer pa) W2 HL.out (HW.out.trans (hb.mono HW.out.size)) (by omega))
    have IR := Lib.hid (fun W2 (hb : Below W.heap.size W W2) => ihr (.pointer pb) W2 HR.out (HW.out.trans (hb.mono HW.out.size)) (by omega))
    clear hb hla hrb ihl ihr hbw
    have HE : exN (.bin k op l r) = exN l ++ exN r := rfl
    rw [HE]
    clear HE HL HR HW
    obtain ⟨nl, hnl⟩ : ∃ n, exN l = n := ⟨_, rfl⟩
    obtain ⟨nr, hnr⟩ : ∃ n, exN r = n := ⟨_, rfl⟩
    rw [hnl] at IL l1 ⊢
    rw [hnr] at IR l2 ⊢
    have LL := Lib.hid (show nl.length + nr.length ≤ 4000 by omega)
    clear hnl hnr l1 l2 hl
    go_enter Tryz.func114, Tryz.ntmps114
    go_upto_region 5 with fail
    have k0 : Below W.heap.size W W.drew := (Below.refl _ _).drew
    go_region_law (first
      | (refine qu_append_step (by rfl) _ _ 174 (by rfl) W.heap.size 76 (.pointer none) 8 Tryz.underlying174 (by kernel_rfl) rfl u1 vs1 (by rfl) Q3.out u2 vs2 (by rfl) S2.out (by have := L2.out; omega) (by have := L2.out; omega) B2.out.size ?_; intro v3 w3 q4 b4 _; have Q4 := Lib.hid q4; have B4 := Lib.hid b4; clear q4 b4)
      | (go_simp; go_at_call 114; refine (IR.out _ B1).mono ?_; rintro e w2 ⟨u2, vs2, rfl, q2, n2, b2⟩; have N2 := Lib.hid n2; have Q3 := Lib.hid (Q1.out.below b2); have B2 := Lib.hid (B1.trans (b2.mono B1.size)); have L2 := Lib.hid (show vs1.length + vs2.length ≤ 4000 by have := N1.out.len; have := n2.len; have := LL.out; omega); have S2 := Lib.hid (qu_src (T := 174) q2 n2.one Tryz.underlying174); clear n2 q2 b2)
      | (go_simp; go_at_call 114; refine (IL.out _ k0).mono ?_; rintro e w1 ⟨u1, vs1, rfl, q1, n1, b1⟩; have B1 := k0.trans b1; have d6 : w1.cell? ⟨g, 6, none⟩ = some (.pointer pb) := keepCell B1 c6; have N1 := Lib.hid n1; have Q1 := Lib.hid q1; clear n1 q1))
    all_goals go_wp2_with fail
    all_goals go_ret
    all_goals exact ⟨_, _, rfl, Q4.out, NmsAt.app N2.out N1.out, B2.out.trans B4.out⟩
end
end Go.Proofs.YtkopjmofdnlplaaGreatDoor.Tm
namespace Go.Proofs.YtkopjmofdnlplaaGreatDoor.Tm
open Go.RowKit Go.Proofs.YtkopjmofdnlplaaGreatDoor.Lex Go.Proofs.YtkopjmofdnlplaaGreatDoor.Dig
/-- The slice v shows the texts xs. -/
def StrsAt (w : World) (v : Value) (xs : List ByteArray) : Prop := ∃ a cap, v = .slice a xs.length cap ∧ xs.length ≤ cap ∧ ∀ j (h : j < xs.length), ∃ b o, a = some ⟨b, o, none⟩ ∧ w.cell? ⟨b, o + j, none⟩ = some (.string xs[j])
theorem StrsAt.below {w w' : World} {v : Value} {xs : List ByteArray} (h : StrsAt w v xs) (hb : Below w.heap.size w w') : StrsAt w' v xs := by
  obtain ⟨a, cap, e, hc, h⟩ := h
  refine ⟨a, cap, e, hc, fun j hj => ?_⟩
  obtain ⟨b, o, e, hj⟩ := h j hj
  exact ⟨b, o, e, keepCell hb hj⟩
theorem Qu.at_ {w : World} {B : Nat} {a : Option Addr} {n c : Nat} {xs : List Value} (h : Qu w B (.slice a n c) xs) (j : Nat) (u : Value) (hu : xs[j]? = some u) : ∃ b o, a = some ⟨b, o, none⟩ ∧ w.cell? ⟨b, o + j, none⟩ = some u := by
  rcases h with ⟨_, rfl⟩ | ⟨g, o, cap, e, _, _, _, _, hc⟩
  · simp at hu
  · injection e with e _ _
    exact ⟨g, o, e, hc j u hu⟩
abbrev Nm := Nat × ByteArray
def memB (s : ByteArray) (xs : List ByteArray) : Bool := xs.any fun x => decide (x = s)
theorem memB_step {s : ByteArray} {xs : List ByteArray} {k : Nat} (h : k < xs.length) : memB s (xs.take (k + 1)) = (memB s (xs.take k) || decide (xs[k] = s)) := by
  unfold memB
  rw [List.take_succ_eq_append_getElem h, List.any_append]
  simp
/-- The place of the first name that is not seen. -/
def hasF (seen : List ByteArray) : List Nm → Option Nat
  | [] => none
  | n :: r => if memB n.2 seen = true then hasF seen r else some n.1
theorem hasF_step {seen : List ByteArray} {ns : List Nm} {k : Nat} (h : k < ns.length) : hasF seen (ns.drop k) = if memB ns[k].2 seen = true then hasF seen (ns.drop (k + 1)) else some ns[k].1 := by
  rw [List.drop_eq_getElem_cons h, hasF]
def flV (f : Int × Int) : Value := .agg #[.int .i64 f.1, .int .i64 f.2]
def good : Int × Int := (0, -1)
def hasC (seen : List ByteArray) (ns : List Nm) : Int × Int := match hasF seen ns with | none => good | some k => (5, (k : Int))
def ctN : Option Ex → List Nm
  | none => []
  | some x => exN x
section
variable {W : World}
theorem ctNames (ct : Option Ex) (cv : Value) (hct : CtAt W ct cv) (hz : Lv ct) (w : World) (hb : Below W.heap.size W w) : Calls Tryz.prog 114 #[cv] w (EnP W w (ctN ct)) := by
  cases ct with
  | none => rw [show cv = .pointer none from hct]; exact names_none
  | some x => exact names_any x cv w hct hb (hz x rfl).1
theorem ctN_len {ct : Option Ex} (hz : Lv ct) : (ctN ct).length ≤ 4000 := by
  cases ct with
  | none => exact Nat.zero_le _
  | some x => exact Nat.le_trans (exN_len x) (hz x rfl).1
theorem has_results (tmps : Array Value) (w : World) (g : Nat) (v0 v1 : Value) (h3 : tmps.getD 3 undef = .pointer (some ⟨g, 0, none⟩)) (c0 : w.cell? ⟨g, 0, none⟩ = some v0) (c1 : w.cell? ⟨g, 1, none⟩ = some v1) :
    (results Tryz.f113 tmps).run Tryz.prog w = .ok (.agg #[v0, v1]) w := by
  have h3' : tmps[3]?.getD undef = .pointer (some ⟨g, 0, none⟩) := by simpa using h3
  simp only [results, Tryz.f113]
  simp [go_sem, h3', c0, c1]
set_option maxRecDepth 100000 in
set_option maxHeartbeats 2000000 in
theorem has_any (seen : List ByteArray) (sv : Value) (ct : Option Ex) (cv : Value) (bx : Nat) (hct : CtAt W ct cv) (hz : Lv ct) (hbx : W.cell? ⟨bx, 0, none⟩ = some sv) (hs : StrsAt W sv seen) (hl : seen.length ≤ 1000000) : Calls Tryz.prog 113 #[cv, .pointer (some ⟨bx, 0, none⟩)] W fun e w' => e = .returned (flV (hasC seen (ctN ct))) ∧ Below W.heap.size W w' := by
  have HC := Lib.hid (ctNames ct cv hct hz)
  have hlen := ctN_len hz
  obtain ⟨ns, hns⟩ : ∃ n, ctN ct = n := ⟨_, rfl⟩
  rw [hns] at HC hlen ⊢
  have HS := Lib.hid hs
  obtain ⟨sa, sc, rfl, hsc, _⟩ := id hs
  have hbl := World.block_lt_of_cell? W _ hbx
  clear hct hz hns hs
  go_enter Tryz.func113, Tryz.ntmps113
  have b0 := Lib.hid (show Below W.heap.size W (W.alloc (.cells #[.int .i64 0, .int .i64 0] 30)) from (Below.refl _ _).alloc (Nat.le_refl _) _)
  go_wp2_with fail
  refine (HC.out _ b0.out).mono ?_; rintro e w1 ⟨u, vs, rfl, hq, hn, hb⟩
  obtain ⟨a10, c10, rfl⟩ := hq.len
  have hvl := hn.len
  have hw1 := hb.size
  rw [show (W.alloc (.cells #[.int .i64 0, .int .i64 0] 30)).heap.size = W.heap.size + 1 by simp] at hw1 hq hb
  have HQ := Lib.hid hq
  have HN := Lib.hid hn
  have B1 := Lib.hid (show Below W.heap.size W w1 from b0.out.trans (hb.mono (Nat.le_succ _)))
  have hR := (hb.block W.heap.size (Nat.lt_succ_self _)).trans (heap_alloc_new _ _)
  have r0 : w1.cell? ⟨W.heap.size, 0, none⟩ = some (.int .i64 0) := by unfold World.cell?; rw [hR]; rfl
  have r1 : w1.cell? ⟨W.heap.size, 1, none⟩ = some (.int .i64 0) := by unfold World.cell?; rw [hR]; rfl
  have g0 : ∀ j, w1.frozen? ⟨W.heap.size, j, none⟩ = false := fun j => by unfold World.frozen?; rw [hR]; rfl
  have x0 : w1.cell? ⟨bx, 0, none⟩ = some (.slice sa seen.length sc) := keepCell B1.out hbx
  have HS1 := Lib.hid (HS.out.below B1.out)
  rw [hvl]
  clear hq hn hb hR hbx HS b0
  go_wp2_with fail
  go_loopw [12] (fun i wr => wr = w1 ∧ ∃ k : Nat, i = .int .i64 k ∧ k ≤ ns.length ∧ Hid (hasF seen ns = hasF seen (ns.drop k))) (fun i _ => ns.length - (intOf i).toNat)
  case atStart => exact ⟨rfl, 0, rfl, Nat.zero_le _, Lib.hid rfl⟩
  case round =>
    obtain ⟨rfl, k, rfl, hk, hF⟩ := hrel
    by_cases hlt : k < ns.length
    · obtain ⟨v, hv, g, rfl, hg⟩ := HN.out.get k hlt
      obtain ⟨b10, o10, rfl, y10⟩ := HQ.out.at_ k _ hv
      have hg1 := (B1.out.block g (Array.getElem?_eq_some_iff.1 hg).1).trans hg
      have z1 : wr.cell? ⟨g, 1, none⟩ = some (.int .i64 (ns[k].1 : Nat)) := ex_cells (cs := [_, _, _, _, _, _, _]) hg1 1
      have z3 : wr.cell? ⟨g, 3, none⟩ = some (.string ns[k].2) := ex_cells (cs := [_, _, _, _, _, _, _]) hg1 3
      have hst := Lib.hid (hF.out.trans (hasF_step hlt))
      have i1 : (0 : Int) ≤ (k : Int) := by omega
      have i2 : (k : Int) < (ns.length : Int) := by omega
      clear hg hg1 hv
      obtain ⟨⟨pk, s⟩, hp⟩ : ∃ p, ns[k] = p := ⟨_, rfl⟩
      rw [hp] at z1 z3 hst
      simp only at z1 z3 hst
      clear hp
      go_wp2_with fail
      go_loopw [6, 18] (fun ok j wq => wq = wr ∧ ∃ m : Nat, j = .int .i64 m ∧ m ≤ seen.length ∧ ok = .bool (memB s (seen.take m))) (fun _ j _ => seen.length - (intOf j).toNat)
      case atStart => exact ⟨rfl, 0, rfl, Nat.zero_le _, rfl⟩
      case round =>
        obtain ⟨rfl, m, rfl, hm, rfl⟩ := hrel
        by_cases hml : m < seen.length
        · have j1 : (0 : Int) ≤ (m : Int) := by omega
          have j2 : (m : Int) < (seen.length : Int) := by omega
          obtain ⟨sa', sc', e, _, hcs⟩ := HS1.out
          injection e with e1 _ e2
          subst e1 e2
          obtain ⟨b16, o16, rfl, y16⟩ := hcs m hml
          have hmm := Lib.hid (memB_step (s := s) hml)
          clear hcs
          obtain ⟨q, hq⟩ : ∃ q, seen[m] = q := ⟨_, rfl⟩
          rw [hq] at y16 hmm
          clear hq
          obtain ⟨bm, hbm⟩ : ∃ q, memB s (seen.take m) = q := ⟨_, rfl⟩
          rw [hbm] at hmm ⊢
          clear hbm
          cases bm with
          | true =>
            have hR := Lib.hid (show memB s (seen.take (m + 1)) = true by rw [hmm.out]; rfl)
            clear hmm
            go_wp2_with fail
            go_roundw
            case rel => first | exact ⟨rfl, m + 1, by go_num, hml, by rw [hR.out]⟩ | exact ⟨trivial, m + 1, by go_num, hml, by rw [hR.out]⟩
            case measure => first | (simp [intOf]; done) | (simp [intOf]; omega)
          | false =>
            by_cases h5 : q = s
            · have e2 : (q.toList == s.toList) = true := by rw [h5]; exact beq_self_eq_true _
              have hR := Lib.hid (show memB s (seen.take (m + 1)) = true by rw [hmm.out, decide_eq_true h5]; rfl)
              clear hmm h5
              go_wp2_with fail
              go_roundw
              case rel => first | exact ⟨rfl, m + 1, by go_num, hml, by rw [hR.out]⟩ | exact ⟨trivial, m + 1, by go_num, hml, by rw [hR.out]⟩
              case measure => first | (simp [intOf]; done) | (simp [intOf]; omega)
            · have e2 : (q.toList == s.toList) = false := (Go.Lib.bytes_beq_false_iff _ _).2 h5
              have hR := Lib.hid (show memB s (seen.take (m + 1)) = false by rw [hmm.out, decide_eq_false h5]; rfl)
              clear hmm h5
              go_wp2_with fail
              go_roundw
              case rel => first | exact ⟨rfl, m + 1, by go_num, hml, by rw [hR.out]⟩ | exact ⟨trivial, m + 1, by go_num, hml, by rw [hR.out]⟩
              case measure => first | (simp [intOf]; done) | (simp [intOf]; omega)
        · have j2 : ¬ (m : Int) < (seen.length : Int) := by omega
          have hme := Lib.hid (show memB s (seen.take m) = memB s seen by rw [List.take_of_length_le (by omega)])
          rw [hme.out]
          obtain ⟨bm, hbm⟩ : ∃ q, memB s seen = q := ⟨_, rfl⟩
          rw [hbm] at hst ⊢
          clear hme hbm
          cases bm with
          | true =>
            have hR := Lib.hid (hst.out.trans (if_pos rfl))
            go_wp2_with fail
            go_roundw
            case rel => first | exact ⟨rfl, k + 1, by go_num, hlt, hR⟩ | exact ⟨trivial, k + 1, by go_num, hlt, hR⟩
            case measure => first | (simp [intOf]; done) | (simp [intOf]; omega)
          | false =>
            have hR := Lib.hid (show hasC seen ns = (5, (pk : Int)) by
              have e := hst.out
              rw [if_neg (by decide)] at e
              unfold hasC
              rw [e])
            clear hst
            go_wp2_with fail
            refine bodyPost_ret (has_results _ _ W.heap.size (.int .i64 5) (.int .i64 (pk : Nat)) rfl (by go_simp) (by go_simp)) rfl ?_
            rw [hR.out]
            exact ⟨rfl, below_set (below_set B1.out (Nat.le_refl _)) (Nat.le_refl _)⟩
    · have i2 : ¬ (k : Int) < (ns.length : Int) := by omega
      have hR := Lib.hid (show hasC seen ns = good by
        have e := hF.out
        rw [show ns.drop k = [] from List.drop_eq_nil_iff.2 (by omega)] at e
        unfold hasC
        rw [e]
        rfl)
      go_wp2_with fail
      refine (good_any _).mono ?_; rintro e w3 ⟨rfl, hb⟩
      have s0 := keepCell hb r0
      have s1 := keepCell hb r1
      have f0 := keepFree hb r0 (g0 0)
      have f1 := keepFree hb r1 (g0 1)
      have B3 := Lib.hid (B1.out.trans (hb.mono B1.out.size))
      clear hb
      go_wp2_with fail
      refine bodyPost_ret (has_results _ _ W.heap.size (.int .i64 0) (.int .i64 (-1)) rfl (by go_simp) (by go_simp)) rfl ?_
      rw [hR.out]
      exact ⟨rfl, below_set (below_set B3.out (Nat.le_refl _)) (Nat.le_refl _)⟩
end
end Go.Proofs.YtkopjmofdnlplaaGreatDoor.Tm
