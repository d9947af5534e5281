/-
  PROVED HERE: the contracts of undo's Way and of the document's. Conditions: as each theorem states.
-/
import Derived.Test.YtijcehimdhbceaaDoorUnC
import Derived.Laws.AppendOwnNone
namespace Go.Proofs.YtijcehimdhbceaaDoor.Un
open Go.RowKit
section
variable {P : Program} {w : World}
/-- append of all of a list of the call's own. -/
theorem own_appendl {ops : Array Oper} {rest : List Oper} {o : Oper} {a : Act} {Q : Exit → Act → World → Prop} (hgd : o.guard = none) (s x : Operand) (t : TypeId)
    (ho : o.op = .call { callee := .builtin .append, args := #[s, x], argTypes := #[t, t] })
    (B E : Nat) (z : Value) (bytes : Nat) (ht : P.underlying t = some (.slice E)) (hinfo : (P.info? E).map (fun i => (i.zero, i.size, i.bytes)) = some (some z, 1, bytes)) (hzs : z.cells.size = 1)
    (v : Value) (xs : List Value) (hs : a.eval s = v) (hown : Own w B E v xs) (y : Value) (ys : List Value) (hx : a.eval x = y) (hy : Own w B E y ys) (h1 : ∀ u ∈ ys, u.oneCell' = true)
    (hlen : (xs.length + ys.length) * bytes ≤ 1000000000000) (hlen2 : xs.length + ys.length ≤ 1000000000000) (hbase : B ≤ w.heap.size)
    (h : ∀ v' w', Own w' B E v' (xs ++ ys) → Below B w w' → wpList P ops Q rest (a.put o.dst v') w') : wpList P ops Q (o :: rest) a w := by
  rcases hy.form with ⟨rfl, rfl⟩ | ⟨g, cap, rfl, _, _, hc, _⟩
  · obtain ⟨i, hi, _⟩ := info_parts hinfo
    exact wpList_append_own_none hgd s x t ho B E i 1 ht hi v xs.length xs hs hown hx (h v w (by rw [List.append_nil]; exact hown) (Below.refl _ _))
  · refine own_append hgd s x t ho B E z bytes ht hinfo hzs v xs hs hown ⟨g, 0, none⟩ ys.length cap ys hx rfl (fun j u hj => ?_) h1 hlen hlen2 hbase (fun v' w' a1 _ a3 _ => h v' w' a1 a3)
    obtain ⟨hj1, hj2⟩ := List.getElem?_eq_some_iff.1 hj
    rw [Addr.add_mid, Nat.zero_add, hc j hj1, hj2]
end
theorem own_one (w : World) (B : Nat) (k : Int) (hB : B ≤ w.heap.size) : Own (w.alloc (.cells #[.int .i64 k] 3)) B 3 (.slice (some ⟨w.heap.size, 0, none⟩) 1 1) (i64s [k]) :=
  World.ownsRow_lit (base := B) (e := 3) (size := 1) w #[.int .i64 k] 1 hB (by unfold maxLen; omega) rfl
theorem infoInt : (Tryd.prog.info? 3).map (fun i => (i.zero, i.size, i.bytes)) = some (some (.int .i64 0), 1, 8) := by kernel_rfl
theorem one_int (l : List Int) : ∀ u ∈ i64s l, u.oneCell' = true := by
  intro u hu
  unfold i64s at hu
  rw [List.mem_map] at hu
  obtain ⟨x, _, rfl⟩ := hu
  rfl
/-- What Way gives. -/
def WP (up : List Int) (now : Nat) (w : World) (e : Ending) (w' : World) : Prop := ∃ v, e = .returned v ∧ Own w' w.heap.size 3 v (i64s (way up now).reverse) ∧ Below w.heap.size w w'
def WR (up : List Int) (now : Nat) (w : World) (v kv : Value) (wr : World) : Prop :=
  ∃ (k : Int) (acc : List Int), -1 ≤ k ∧ k < up.length ∧ acc.length + k ≤ now ∧ kv = .int .i64 k ∧ (∃ a c, v = .slice a acc.length c) ∧ Hid (Own wr w.heap.size 3 v (i64s acc)) ∧ Hid ((way up now).reverse = (way up k).reverse ++ acc) ∧ Hid (Below w.heap.size w wr)
theorem wr_next {up : List Int} (h : Ups up) (now : Nat) (k : Int) (hk : 0 ≤ k) (acc : List Int) (hw : (way up now).reverse = (way up k).reverse ++ acc) : (way up now).reverse = (way up (up.getD k.toNat (-1))).reverse ++ (k :: acc) := by
  rw [hw, way_step h k hk, List.reverse_cons, List.append_assoc]
  rfl
set_option maxRecDepth 100000 in
set_option maxHeartbeats 2000000 in
theorem docWay_any (w : World) (g b cap d cap' : Nat) (up tm : List Int) (now t : Nat) (hD : DT w g b cap d cap' up tm now t) (hu : Ups up) (hn : now < up.length) (hl : up.length ≤ 1000) :
    Calls Tryd.prog 27 #[.pointer (some ⟨g, 0, none⟩)] w (WP up now w) := by
  have c0 := hD.c0
  have c1 := hD.c1
  have DH := Lib.hid hD
  have UH := Lib.hid hu
  clear hD hu
  go_enter Tryd.func27, Tryd.ntmps27
  go_wp2_with fail
  go_loopw [3, 4] (fun v kv wr => WR up now w v kv wr) (fun _ kv _ => (intOf kv + 1).toNat)
  case atStart => exact ⟨now, [], by omega, by omega, by simp, rfl, ⟨_, _, rfl⟩, Lib.hid (own_nil _ _ _), Lib.hid (by rw [List.append_nil]), Lib.hid (Below.refl _ _)⟩
  case round =>
    obtain ⟨k, acc, hk1, hk2, hak, rfl, ⟨a0, c00, rfl⟩, hO, hW, hB⟩ := hrel
    by_cases hk : 0 ≤ k
    · obtain ⟨n, rfl⟩ := Int.eq_ofNat_of_zero_le hk
      have hnl : n < up.length := by omega
      have e0 := keepCell hB.out c0
      have hcc := (DH.out.ow1).at_ n (by rw [i64s_len]; exact hnl)
      obtain ⟨gb, eg, hcc⟩ := hcc
      injection eg with eg
      injection eg with eg _ _
      subst eg
      rw [i64s_get] at hcc
      have hcw := hcc
      have hun := up_lt UH.out n
      have hN := Lib.hid (wr_next UH.out now n (by omega) acc hW.out)
      rw [Int.toNat_natCast] at hN
      have hge : up.getD n 0 = up.getD n (-1) := by
        rw [gdl up n 0 hnl, gdl up n (-1) hnl]
      rw [hge] at hcw
      generalize up.getD n (-1) = u at *
      have i1 : (0 : Int) ≤ (n : Int) := by omega
      have i2 : (n : Int) < (up.length : Int) := by omega
      have hO1 := Lib.hid (hO.out.alloc (.cells #[.int .i64 n] 3))
      have hO2 := Lib.hid (own_one wr w.heap.size n hB.out.size)
      have hB1 := Lib.hid (hB.out.alloc hB.out.size (.cells #[.int .i64 n] 3))
      have hl1 : ((i64s [(n : Int)]).length + (i64s acc).length) * 8 ≤ 1000000000000 := by rw [i64s_len, i64s_len]; simp; omega
      have hl2 : (i64s [(n : Int)]).length + (i64s acc).length ≤ 1000000000000 := by rw [i64s_len, i64s_len]; simp; omega
      clear hO hW hcc hge e0
      go_wp2_with (at_builtin; go_loud (refine own_appendl rfl _ _ _ rfl w.heap.size 3 (.int .i64 0) 8 Tryd.underlying49 infoInt rfl _ (i64s [(n : Int)]) rfl hO2.out _ (i64s acc) rfl hO1.out (one_int _) hl1 hl2 hB1.out.size ?_); intro v1 w2 ho1 hb1; have e1 := keepCell (hB1.out.trans hb1) c0; have hc2 := keepCell (hB1.out.trans hb1) hcw)
      have hB2 := Lib.hid (hB1.out.trans hb1)
      have hv : ∃ a c, v1 = .slice a ((n : Int) :: acc).length c := by
        obtain ⟨a, c, e⟩ := ho1.len
        exact ⟨a, c, by rw [e]; simp [i64s]⟩
      have hO3 : Hid (Own w2 w.heap.size 3 v1 (i64s ((n : Int) :: acc))) := Lib.hid ho1
      go_roundw
      case rel => first | exact ⟨u, (n : Int) :: acc, by omega, by omega, by simp; omega, rfl, hv, hO3, hN, hB2⟩ | ((repeat apply Exists.intro); exact ⟨⟨u, (n : Int) :: acc, by omega, by omega, by simp; omega, rfl, hv, hO3, hN, hB2⟩, rfl⟩)
      case measure => simp [intOf]; omega
    · obtain rfl : k = -1 := by omega
      have hN : Hid ((way up now).reverse = acc) := Lib.hid (by rw [hW.out, way_neg up (-1) (by omega)]; rfl)
      clear hW
      go_wp2_with fail
      go_ret
      exact ⟨_, rfl, by rw [hN.out]; exact hO.out, hB.out⟩
set_option maxRecDepth 100000 in
set_option maxHeartbeats 2000000 in
theorem way_any (w : World) (g b cap : Nat) (l : List St) (up : List Int) (now : Nat) (hD : PT w g b cap l now) (hup : l.map St.up = up) (hu : Ups up) (hn : now < up.length) (hl : up.length ≤ 1000) :
    Calls Tryd.prog 26 #[.pointer (some ⟨g, 0, none⟩)] w (WP up now w) := by
  have c0 := hD.c0
  have c1 := hD.c1
  have DH := Lib.hid hD
  have UH := Lib.hid hu
  have hll : up.length = l.length := by rw [← hup]; simp
  have UPH := Lib.hid hup
  have hllH := Lib.hid hll
  clear hD hu hup hll
  go_enter Tryd.func26, Tryd.ntmps26
  go_wp2_with fail
  go_loopw [3, 4] (fun v kv wr => WR up now w v kv wr) (fun _ kv _ => (intOf kv + 1).toNat)
  case atStart => exact ⟨now, [], by omega, by omega, by simp, rfl, ⟨_, _, rfl⟩, Lib.hid (own_nil _ _ _), Lib.hid (by rw [List.append_nil]), Lib.hid (Below.refl _ _)⟩
  case round =>
    obtain ⟨k, acc, hk1, hk2, hak, rfl, ⟨a0, c00, rfl⟩, hO, hW, hB⟩ := hrel
    by_cases hk : 0 ≤ k
    · obtain ⟨n, rfl⟩ := Int.eq_ofNat_of_zero_le hk
      have hnl : n < up.length := by omega
      have e0 := keepCell hB.out c0
      have hnl2 : n < l.length := by have := hllH.out; omega
      have hcc : w.cell? ⟨b, n * 3 + 1, none⟩ = some (.int .i64 (up.getD n (-1))) := by
        rw [World.ownsRow.cellAt DH.out.own (n * 3 + 1) (by omega), stCells_get l n 1 hnl2 (by decide)]
        simp only [St.cells, List.getElem?_cons_succ, List.getElem?_cons_zero]
        rw [← UPH.out, gdl _ _ _ (by simp; exact hnl2), List.getElem_map]
      have hcw := hcc
      have i3 : (n : Int) < (l.length : Int) := by omega
      have hun := up_lt UH.out n
      have hN := Lib.hid (wr_next UH.out now n (by omega) acc hW.out)
      rw [Int.toNat_natCast] at hN
      generalize up.getD n (-1) = u at *
      have i1 : (0 : Int) ≤ (n : Int) := by omega
      have i2 : (n : Int) < (up.length : Int) := by omega
      have hO1 := Lib.hid (hO.out.alloc (.cells #[.int .i64 n] 3))
      have hO2 := Lib.hid (own_one wr w.heap.size n hB.out.size)
      have hB1 := Lib.hid (hB.out.alloc hB.out.size (.cells #[.int .i64 n] 3))
      have hl1 : ((i64s [(n : Int)]).length + (i64s acc).length) * 8 ≤ 1000000000000 := by rw [i64s_len, i64s_len]; simp; omega
      have hl2 : (i64s [(n : Int)]).length + (i64s acc).length ≤ 1000000000000 := by rw [i64s_len, i64s_len]; simp; omega
      clear hO hW hcc e0
      go_wp2_with (at_builtin; go_loud (refine own_appendl rfl _ _ _ rfl w.heap.size 3 (.int .i64 0) 8 Tryd.underlying49 infoInt rfl _ (i64s [(n : Int)]) rfl hO2.out _ (i64s acc) rfl hO1.out (one_int _) hl1 hl2 hB1.out.size ?_); intro v1 w2 ho1 hb1; have e1 := keepCell (hB1.out.trans hb1) c0; have hc2 := keepCell (hB1.out.trans hb1) hcw)
      have hB2 := Lib.hid (hB1.out.trans hb1)
      have hv : ∃ a c, v1 = .slice a ((n : Int) :: acc).length c := by
        obtain ⟨a, c, e⟩ := ho1.len
        exact ⟨a, c, by rw [e]; simp [i64s]⟩
      have hO3 : Hid (Own w2 w.heap.size 3 v1 (i64s ((n : Int) :: acc))) := Lib.hid ho1
      go_roundw
      case rel => first | exact ⟨u, (n : Int) :: acc, by omega, by omega, by simp; omega, rfl, hv, hO3, hN, hB2⟩ | ((repeat apply Exists.intro); exact ⟨⟨u, (n : Int) :: acc, by omega, by omega, by simp; omega, rfl, hv, hO3, hN, hB2⟩, rfl⟩)
      case measure => simp [intOf]; omega
    · obtain rfl : k = -1 := by omega
      have hN : Hid ((way up now).reverse = acc) := Lib.hid (by rw [hW.out, way_neg up (-1) (by omega)]; rfl)
      clear hW
      go_wp2_with fail
      go_ret
      exact ⟨_, rfl, by rw [hN.out]; exact hO.out, hB.out⟩
end Go.Proofs.YtijcehimdhbceaaDoor.Un
