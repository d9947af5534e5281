/-
  PROVED HERE: the contract of lz.Pack's inner function. Conditions: as each theorem states.
-/
import Derived.Test.YtnbpninnanjemaaDoorLzN
namespace Go.Proofs.YtnbpninnanjemaaDoor.Lz
open Go.RowKit
/-- append of a literal to the first list, and what has turned. -/
theorem two_step1g {P : Program} {w : World} {ops : Array Oper} {o : Oper} {a : Act} {K : Act → World → Prop} {Q : Exit → Act → World → Prop} {FF : Prop} (hgd : o.guard = none) (s y : Operand) (t : TypeId)
    (ho : o.op = .call { callee := .builtin .append, args := #[s, y], argTypes := #[t, t] })
    {W : World} {B E F : Nat} (z : Value) (bytes : Nat) (ht : P.underlying t = some (.slice E)) (hinfo : (P.info? E).map (fun i => (i.zero, i.size, i.bytes)) = some (some z, 1, bytes)) (hzs : z.cells.size = 1)
    {v u : Value} {xs ys : List Value} {g : Nat} {x : Value} {q : Option (Nat × Value)} (hT : Two W w B E F v xs u ys (some (g, x)) q) (hs : a.eval s = v) (c : Nat) (hx : a.eval y = .slice (some ⟨g, 0, none⟩) 1 c) (h1 : x.oneCell' = true)
    (hlen : (xs.length + 1) * bytes ≤ 1000000000000) (hlen2 : xs.length + 1 ≤ 1000000000000)
    (h : ∀ v' w', Two W w' B E F v' (xs ++ [x]) u ys none q → w.grownBy w' v.ownBlock → K (a.put o.dst v') w') :
    if Region.wanted o (yielded ops a.tmps) = true then Oper.wp P o a w K Q else FF :=
  own_append_step hgd s y t ho B E z bytes ht hinfo hzs v xs hs hT.1 ⟨g, 0, none⟩ 1 c [x] hx rfl (fun j u' hj => by
    rcases j with _ | j
    · simp at hj; subst hj; rw [Addr.add_mid]; exact hT.2.2.2.2.2.1.1
    · simp at hj) (fun u' hu => by rw [List.mem_singleton.1 hu]; exact h1) hlen hlen2 hT.2.2.2.1 (fun v' w' a b c d => h v' w' (hT.app1 a b c d) b)
/-- append of the second list to the first, at a step of a region that draws its order. -/
theorem two_stepU {P : Program} {w : World} {ops : Array Oper} {o : Oper} {a : Act} {K : Act → World → Prop} {Q : Exit → Act → World → Prop} {FF : Prop} (hgd : o.guard = none) (s y : Operand) (t : TypeId)
    (ho : o.op = .call { callee := .builtin .append, args := #[s, y], argTypes := #[t, t] })
    {W : World} {B E : Nat} (z : Value) (bytes : Nat) (ht : P.underlying t = some (.slice E)) (hinfo : (P.info? E).map (fun i => (i.zero, i.size, i.bytes)) = some (some z, 1, bytes)) (hzs : z.cells.size = 1)
    {v : Value} {g c n : Nat} {xs ys : List Value} (hn : ys.length = n) (hT : Two W w B E E v xs (.slice (some ⟨g, 0, none⟩) n c) ys none none) (hs : a.eval s = v) (hx : a.eval y = .slice (some ⟨g, 0, none⟩) n c) (h1 : ∀ u ∈ ys, u.oneCell' = true)
    (hlen : (xs.length + n) * bytes ≤ 1000000000000) (hlen2 : xs.length + n ≤ 1000000000000)
    (h : ∀ v' w', Two W w' B E E v' (xs ++ ys) (.slice (some ⟨g, 0, none⟩) n c) ys none none → w.grownBy w' v.ownBlock → K (a.put o.dst v') w') :
    if Region.wanted o (yielded ops a.tmps) = true then Oper.wp P o a w K Q else FF := by
  subst hn
  have hcells : ∀ j u, ys[j]? = some u → w.cell? ((⟨g, 0, none⟩ : Addr).add j) = some u := by
    intro j u hj
    have hjl : j < ys.length := (List.getElem?_eq_some_iff.1 hj).1
    obtain ⟨g', e, hc⟩ := hT.2.1.at_ j hjl
    have e2 : g = g' := by injection e with e; injection e
    subst e2
    rw [Addr.add_mid, Nat.zero_add, hc]
    rw [← (List.getElem?_eq_some_iff.1 hj).2]
  refine own_append_step hgd s y t ho B E z bytes ht hinfo hzs v xs hs hT.1 ⟨g, 0, none⟩ ys.length c ys hx rfl hcells h1 hlen hlen2 hT.2.2.2.1 (fun v' w' a1 b1 c1 d1 => h v' w' ?_ b1)
  obtain ⟨q1, q2, q3, q4, q5, _, _⟩ := hT
  have hne : (Value.slice (some ⟨g, 0, none⟩) ys.length c).ownBlock = none ∨ (Value.slice (some ⟨g, 0, none⟩) ys.length c).ownBlock ≠ v.ownBlock := by
    cases e : (Value.slice (some ⟨g, 0, none⟩) ys.length c).ownBlock with
    | none => exact .inl rfl
    | some k => exact .inr (fun e' => q3 k e'.symm e)
  refine ⟨a1, q2.keep b1 hne, fun k e e' => ?_, Nat.le_trans q4 b1.size, q5.trans c1, trivial, trivial⟩
  rcases d1 with d | d
  · exact q3 k (d ▸ e) e'
  · rw [d] at e; injection e with e; subst e; exact absurd (q2.lt _ e').2 (Nat.lt_irrefl _)
def FlP (W : World) (H : Nat) (o p : List UInt8) (w : World) (e : Ending) (w' : World) : Prop := e = .returned (.tuple #[]) ∧ St W H (fl o p) [] w' ∧ Fr H w w'
theorem u8s_one (l : List UInt8) : ∀ u ∈ u8s l, u.oneCell' = true := fun u hu => by
  obtain ⟨c, _, rfl⟩ := List.mem_map.1 hu
  rfl
set_option maxRecDepth 100000 in
set_option maxHeartbeats 4000000 in
theorem flush_any (W : World) (H : Nat) (o p : List UInt8) (w : World) (h : St W H o p w) (ho : o.length ≤ 100000) (hp : p.length ≤ 128) :
    Calls Tryd.prog 16 #[.pointer (some ⟨H + 2, 0, none⟩), .pointer (some ⟨H + 1, 0, none⟩)] w (FlP W H o p w) := by
  have HS := Lib.hid h
  obtain ⟨h1, h2, vo, vp, c5, c6, f5, f6, o5, o6, hd⟩ := h
  have H1 := Lib.hid h1
  have HD := Lib.hid hd
  clear h1 hd
  by_cases hp0 : p.length = 0
  · obtain rfl : p = [] := List.eq_nil_of_length_eq_zero hp0
    have hfl : fl o [] = o := rfl
    rcases o6.form with ⟨rfl, -⟩ | ⟨g, cap, rfl, -⟩
    · clear o5 o6
      go_enter Tryd.func16, Tryd.ntmps16
      go_wp2_with fail
      go_end0
      exact ⟨rfl, hfl ▸ HS.out, Fr.refl _ _⟩
    · clear o5 o6
      have hl0 : (u8s []).length = 0 := rfl
      go_enter Tryd.func16, Tryd.ntmps16
      go_wp2_with fail
      go_end0
      exact ⟨rfl, hfl ▸ HS.out, Fr.refl _ _⟩
  · have hu : (u8s p).length = p.length := u8s_len p
    have huo : (u8s o).length = o.length := u8s_len o
    rcases o6.form with ⟨-, e0⟩ | ⟨g, cap, rfl, -⟩
    · rw [e0] at hu; exact absurd hu.symm hp0
    · obtain ⟨a, c, rfl⟩ := o5.len
      have HT : Hid (Two w w (H + 3) 5 5 (.slice a (u8s o).length c) (u8s o) (.slice (some ⟨g, 0, none⟩) (u8s p).length cap) (u8s p) none none) := Lib.hid ⟨o5, o6, HD.out, by omega, Below.refl _ _, trivial, trivial⟩
      have L1 := Lib.hid (show ((u8s o).length + 1) * 1 ≤ 1000000000000 ∧ (u8s o).length + 1 ≤ 1000000000000 by omega)
      have L2 : Hid (∀ x : Value, (((u8s o) ++ [x]).length + (u8s p).length) * 1 ≤ 1000000000000 ∧ ((u8s o) ++ [x]).length + (u8s p).length ≤ 1000000000000) := Lib.hid (fun x => by rw [List.length_append, List.length_singleton]; omega)
      have FR := Lib.hid (own_cells o5)
      have hx : (((u8s p).length : Nat) : Int) - 1 = ((UInt8.ofNat (p.length - 1)).toNat : Int) := by rw [UInt8.toNat_ofNat']; omega
      have hfl : fl o p = o ++ UInt8.ofNat (p.length - 1) :: p := by unfold fl; rw [if_neg hp0]
      have HFL := Lib.hid hfl
      have hn0 : 0 < (u8s p).length := by omega
      have hn8 : (u8s p).length ≤ 128 := by omega
      have HX : Hid ((u8s o ++ [.int .u8 ((((u8s p).length : Nat) : Int) - 1)]) ++ u8s p = u8s (o ++ UInt8.ofNat (p.length - 1) :: p)) := Lib.hid (by rw [hx]; simp [u8s])
      clear o5 o6 huo hx hfl
      generalize hn : (u8s p).length = n at *
      have HN := Lib.hid hn
      clear hu hn
      obtain ⟨m1, hm1⟩ : ∃ m1, m1 = u8s o ++ [.int .u8 ((n : Int) - 1)] := ⟨_, rfl⟩
      obtain ⟨m2, hm2⟩ : ∃ m2, m2 = m1 ++ u8s p := ⟨_, rfl⟩
      have L3 := L2.out (.int .u8 ((n : Int) - 1))
      have HX2 : Hid (m2 = u8s (o ++ UInt8.ofNat (p.length - 1) :: p)) := Lib.hid (by rw [hm2, hm1]; exact HX.out)
      rw [← hm1] at L3
      have L2 := Lib.hid L3
      have HM := Lib.hid hm1
      have HM2 := Lib.hid hm2
      clear hm1 hm2 L3 HX
      have n5 : (w.alloc (.cells #[.int .u8 ((n : Int) - 1)] 5)).cell? ⟨H + 1, 0, none⟩ = some (.slice a (u8s o).length c) := (World.cell?_alloc_lt _ _ _ (by show H + 1 < _; omega)).trans c5
      have n6 : (w.alloc (.cells #[.int .u8 ((n : Int) - 1)] 5)).cell? ⟨H + 2, 0, none⟩ = some (.slice (some ⟨g, 0, none⟩) n cap) := (World.cell?_alloc_lt _ _ _ (by show H + 2 < _; omega)).trans c6
      have v1 : IntKind.i64.wrap ((n : Int) - 1) = (n : Int) - 1 := IntWalk.i64_in _ (by omega)
      have v2 : IntKind.u8.wrap ((n : Int) - 1) = (n : Int) - 1 := IntWalk.u8_in _ (by omega)
      go_enter Tryd.func16, Tryd.ntmps16
      go_wp2_with fail
      go_region_law (first
        | (refine two_step1g (by rfl) _ _ 41 (by rfl) (.int .u8 0) 1 Tryd.underlying41 infoU8 rfl (by first | exact (HT.out.drew).lay1 _ _ | exact (HT.out.lay1 _ _).drew) (by rfl) 1 (by rfl) rfl L1.out.1 L1.out.2 ?_; intro v1 w1 hT1 hg1; have F1 : Hid (Fr H w w1) := Lib.hid (by first | exact (Fr.below (((Below.refl _ w).drew).alloc (Nat.le_refl _) _)).trans (Fr.grown hg1 (own_cells ((HT.out.1.drew).alloc _))) | exact (Fr.below (((Below.refl _ w).alloc (Nat.le_refl _) _).drew)).trans (Fr.grown hg1 (own_cells ((HT.out.1.alloc _).drew)))); clear hg1; rw [← HM.out] at hT1; obtain ⟨a1, c1, rfl⟩ := hT1.1.len; have T1 := Lib.hid hT1; have g5 := (hT1.2.2.2.2.1.cell (p := ⟨H + 1, 0, none⟩) (by simp)).trans c5; have g6 := (hT1.2.2.2.2.1.cell (p := ⟨H + 2, 0, none⟩) (by simp)).trans c6; clear hT1)
        | (refine two_stepU (by rfl) _ _ 41 (by rfl) (.int .u8 0) 1 Tryd.underlying41 infoU8 rfl HN.out T1.out (by rfl) (by rfl) (u8s_one p) L2.out.1 L2.out.2 ?_; intro v2 w2 hT2 hg2; have F2 : Hid (Fr H w w2) := Lib.hid (F1.out.trans (Fr.grown hg2 (own_cells T1.out.1))); clear hg2; rw [← HM2.out] at hT2; obtain ⟨a2, c2, rfl⟩ := hT2.1.len; have T2 := Lib.hid hT2; have k5 := (hT2.2.2.2.2.1.cell (p := ⟨H + 1, 0, none⟩) (by simp)).trans c5; have k6 := (hT2.2.2.2.2.1.cell (p := ⟨H + 2, 0, none⟩) (by simp)).trans c6; have q5 := (hT2.2.2.2.2.1.frozen (p := ⟨H + 1, 0, none⟩) (by simp)).trans f5; have q6 := (hT2.2.2.2.2.1.frozen (p := ⟨H + 2, 0, none⟩) (by simp)).trans f6; clear hT2))
      all_goals
        have hB2 : Below H W w2 := H1.out.trans (T2.out.2.2.2.2.1.mono (by omega))
        have hz2 : H + 2 < w2.heap.size := Nat.lt_of_lt_of_le h2 T2.out.2.2.2.2.1.size
        have r5 : (w2.setCell ⟨H + 1, 0, none⟩ (.slice a2 m2.length c2)).cell? ⟨H + 1, 0, none⟩ = some (.slice a2 m2.length c2) := World.cell?_setCell_same _ _ _ k5
        have r6 : (w2.setCell ⟨H + 1, 0, none⟩ (.slice a2 m2.length c2)).cell? ⟨H + 2, 0, none⟩ = some (.slice (some ⟨g, 0, none⟩) n cap) := (World.cell?_setCell_other _ _ _ _ (by intro hh; simp at hh)).trans k6
        have z5 : (w2.setCell ⟨H + 1, 0, none⟩ (.slice a2 m2.length c2)).frozen? ⟨H + 1, 0, none⟩ = false := by rw [frozen?_setCell]; exact q5
        have z6 : (w2.setCell ⟨H + 1, 0, none⟩ (.slice a2 m2.length c2)).frozen? ⟨H + 2, 0, none⟩ = false := by rw [frozen?_setCell]; exact q6
        have hO7 : Own w2 (H + 3) 5 (.slice a2 m2.length c2) (u8s (fl o p)) := by
          rw [HFL.out, ← HX2.out]; exact T2.out.1
        have R := Lib.hid (St.setP (W := W) (H := H) (o := fl o p) (p' := []) (w := w2.setCell ⟨H + 1, 0, none⟩ (.slice a2 m2.length c2)) (hB2.setCell (p := ⟨H + 1, 0, none⟩) (by simp) _) (by simpa [World.setCell] using hz2) r5 r6 z5 z6
          (hO7.setBelow (a := ⟨H + 1, 0, none⟩) (by simp) _) (own_cut0 (T2.out.2.1.setBelow (a := ⟨H + 1, 0, none⟩) (by simp) _)) (T2.out.2.2.1))
        have F3 := Lib.hid ((F2.out.trans (Fr.setCell H w2 ⟨H + 1, 0, none⟩ (.inl rfl) (.slice a2 m2.length c2))).trans (Fr.setCell H _ ⟨H + 2, 0, none⟩ (.inr rfl) (.slice (some ⟨g, 0, none⟩) 0 cap)))
        clear hB2 hz2 hO7 k5 k6 q5 q6 r5 z5
        go_wp2_with fail
        go_end0
        exact ⟨rfl, R.out, F3.out⟩
end Go.Proofs.YtnbpninnanjemaaDoor.Lz
