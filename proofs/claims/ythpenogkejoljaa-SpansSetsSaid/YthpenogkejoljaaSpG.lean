/-
  PROVED HERE: the document's ends of spans. Conditions: as each theorem states.
-/
import Derived.Test.YthpenogkejoljaaSpH
import Derived.Deep.DeepCutAuto
import Derived.Deep.RegionWith
import Derived.Deep.RegionHeld3
import Derived.BigQuiet
namespace Go.Proofs.Ythpenogkejoljaa.Sp
open Go.RowKit
def EndsP (ls : List (List Spn)) (w : World) (e : Ending) (w' : World) : Prop := ∃ v r, e = .returned v ∧ Ints w' v r ∧ Up r ∧ (∀ x, x ∈ r ↔ EndOf ls.flatten x) ∧ r.length ≤ 1 + 2 * ls.flatten.length ∧ Below w.heap.size w w'
/-- What the collecting holds. -/
def ERel (W : World) (pr : List Spn) (wr : World) : Prop := MI wr W.heap.size (1 + 2 * pr.length) (EndOf pr) ∧ Below W.heap.size W wr
theorem ERel.below {W w w' : World} {pr : List Spn} (h : ERel W pr w) (hb : Below w.heap.size w w') : ERel W pr w' := ⟨h.1.below hb, h.2.trans (hb.mono h.2.size)⟩
theorem ERel.put {W w : World} {pr : List Spn} {y : Spn} (h : ERel W pr w) (h1 : I64 y.1) (h2 : I64 y.2) (hn : pr.length ≤ 1000) :
    ∃ wA wB, (Instr.mapUpdate 46 (.map (some W.heap.size)) (.int .i64 (max y.1 0)) (.bool true)).run Try.prog w = .ok () wA ∧ (Instr.mapUpdate 46 (.map (some W.heap.size)) (.int .i64 (max y.2 0)) (.bool true)).run Try.prog wA = .ok () wB ∧
      ERel W (pr ++ [y]) wB ∧ (∀ a x, w.cell? a = some x → a.block ≠ W.heap.size → wA.cell? a = some x) ∧ (∀ a x, w.cell? a = some x → a.block ≠ W.heap.size → wB.cell? a = some x) := by
  have b1 : I64 (max y.1 0) := by unfold I64 at *; omega
  have b2 : I64 (max y.2 0) := by unfold I64 at *; omega
  obtain ⟨wA, e1, m1, g1⟩ := h.1.put b1 (by omega)
  obtain ⟨wB, e2, m2, g2⟩ := m1.put b2 (by omega)
  have kA : ∀ a x, w.cell? a = some x → a.block ≠ W.heap.size → wA.cell? a = some x := fun a x hc hne => (World.cell?_of_block (g1.block _ (World.block_lt_of_cell? w a hc) (by simpa using hne))).trans hc
  refine ⟨wA, wB, e1, e2, ⟨?_, (h.2.grown g1 h.2.size (fun k hk => by cases hk; exact Nat.le_refl _)).grown g2 (Nat.le_trans h.2.size g1.size) (fun k hk => by cases hk; exact Nat.le_refl _)⟩, kA, fun a x hc hne => ?_⟩
  · have := m2.congr (T := EndOf (pr ++ [y])) (fun x => (endOf_snoc pr y x).symm)
    rw [List.length_append]
    simpa [Nat.mul_add, Nat.add_assoc] using this
  · have := kA a x hc hne
    exact (World.cell?_of_block (g2.block _ (World.block_lt_of_cell? wA a this) (by simpa using hne))).trans this
theorem size_le {w : World} {b n : Nat} {D : DataW Unit} (h : w.ownsMap Try.prog 3 RB b n D) : Maps.size D ≤ n := by
  obtain ⟨es, clock, _, _, h4, rfl⟩ := h
  unfold Maps.size
  simp only [Go.length_sorted, List.length_map]
  simpa using h4
theorem own_ne {w : World} {B E : Nat} {v : Value} {xs : List Value} (h : Own w B E v xs) {R : Nat} (hR : R < B) : v.ownBlock = none ∨ v.ownBlock ≠ some R := by
  cases e : v.ownBlock with
  | none => exact .inl rfl
  | some k => exact .inr (fun e' => by cases e'; have := (h.lt _ e).1; omega)
theorem own_lit (w : World) (B E : Nat) (x : Value) (h : B ≤ w.heap.size) : Own (w.alloc (.cells #[x] E)) B E (.slice (some ⟨w.heap.size, 0, none⟩) 1 1) [x] :=
  ⟨rfl, .inr ⟨w.heap.size, 1, #[x], rfl, h, heap_alloc_new w _, Nat.le_refl _, by unfold maxLen; omega, rfl, rfl⟩⟩
theorem i64s_one (l : List Int) : ∀ u ∈ i64s l, u.oneCell' = true := fun u hu => by
  obtain ⟨y, _, rfl⟩ := List.mem_map.1 hu
  rfl
theorem own_some {w : World} {B E : Nat} {v : Value} {xs : List Value} (h : Own w B E v xs) (hx : xs ≠ []) : ∃ g c, v = .slice (some ⟨g, 0, none⟩) xs.length c := by
  rcases h.2 with ⟨_, h0⟩ | ⟨g, c, cur, rfl, _⟩
  · exact absurd (List.eq_nil_of_length_eq_zero h0) hx
  · exact ⟨g, c, rfl⟩
/-- Behind the first of the two appends. -/
theorem mid6 {W w w6 : World} {B2 R N cnt c g : Nat} {D : DataW Unit} {left : Lit → Bool} {o : List Int} {x : Int} (hO : Own w B2 3 (.slice (some ⟨g, 0, none⟩) o.length c) (i64s o)) (hB : Below W.heap.size W w) (hR : w.ranges Try.prog 3 RB W.heap.size R N D left cnt)
    (hg : ((w.alloc (.cells #[.int .i64 x] 3)).drew).grownBy w6 (some w.heap.size)) (hb : Below w.heap.size ((w.alloc (.cells #[.int .i64 x] 3)).drew) w6) (h1 : W.heap.size < w.heap.size) (h2 : R < w.heap.size) (hbg : B2 ≤ g) (_hs : B2 ≤ w.heap.size) :
    Own w6 B2 3 (.slice (some ⟨g, 0, none⟩) o.length c) (i64s o) ∧ Below W.heap.size W w6 ∧ w6.ranges Try.prog 3 RB W.heap.size R N D left cnt ∧ B2 ≤ w6.heap.size := by
  have hz : w.heap.size ≤ w6.heap.size := by have := hg.size; simp at this; omega
  have hgl := (hO.lt g rfl).2
  refine ⟨((hO.alloc _).drew).keep hg (.inr (fun e => by simp [Value.ownBlock] at e; omega)), (hB.alloc hB.size _).drew.trans (hb.mono hB.size), ?_, by omega⟩
  have hr := (hR.alloc (.cells #[.int .i64 x] 3)).kept (w' := (w.alloc (.cells #[.int .i64 x] 3)).drew) (row := none) ⟨rfl, rfl, rfl, Nat.le_refl _, fun _ _ _ => rfl⟩ (by simp) (by simp)
  exact hr.kept hg (by simp; omega) (by simp; omega)
/-- Behind the second. -/
theorem end7 {W w6 w7 : World} {B2 R N cnt c k g : Nat} {D : DataW Unit} {left : Lit → Bool} {o : List Int} {x : Int} {v7 : Value} (hQ : Own w6 B2 3 (.slice (some ⟨g, 0, none⟩) o.length c) (i64s o) ∧ Below W.heap.size W w6 ∧ w6.ranges Try.prog 3 RB W.heap.size R N D left cnt ∧ B2 ≤ w6.heap.size)
    (ho : Own w7 B2 3 v7 ((i64s o).take k ++ ([.int .i64 x] ++ (i64s o).drop k))) (hg : w6.grownBy w7 (Value.slice (some ⟨g, 0, none⟩) k c).ownBlock) (hb : Below B2 w6 w7) (hbg : B2 ≤ g) (h1 : R < B2) (h2 : W.heap.size < B2) :
    Own w7 B2 3 v7 (i64s (o.take k ++ ([x] ++ o.drop k))) ∧ Below W.heap.size W w7 ∧ w7.ranges Try.prog 3 RB W.heap.size R N D left cnt ∧ B2 ≤ w7.heap.size := by
  obtain ⟨_, q2, q3, q4⟩ := hQ
  refine ⟨?_, q2.trans (hb.mono (by omega)), q3.kept hg (by simp [Value.ownBlock]; omega) (by simp [Value.ownBlock]; omega), Nat.le_trans q4 hb.size⟩
  have e : i64s (o.take k ++ ([x] ++ o.drop k)) = (i64s o).take k ++ ([.int .i64 x] ++ (i64s o).drop k) := by simp [i64s, List.map_take, List.map_drop]
  rw [e]
  exact ho
theorem lit_news (w : World) (x : Int) : ∀ j u, ([.int .i64 x] : List Value)[j]? = some u → ((w.alloc (.cells #[.int .i64 x] 3)).drew).cell? ((⟨w.heap.size, 0, none⟩ : Addr).add j) = some u := fun j u hu => by
  rcases j with _ | j
  · simp at hu
    subst hu
    rw [Addr.add_mid]
    exact new_cell w _ _
  · simp at hu
/-- Behind the appends to no row. -/
theorem nil7 {W w w7 : World} {B2 R N cnt : Nat} {D : DataW Unit} {left : Lit → Bool} {x : Int} {v7 : Value} (hB : Below W.heap.size W w) (hR : w.ranges Try.prog 3 RB W.heap.size R N D left cnt)
    (ho : Own w7 B2 3 v7 ([] ++ [.int .i64 x])) (hg : ((w.alloc (.cells #[.int .i64 x] 3)).drew).grownBy w7 (Value.slice none 0 0).ownBlock) (hb : Below B2 ((w.alloc (.cells #[.int .i64 x] 3)).drew) w7) (h2 : W.heap.size < B2) (hs : B2 ≤ w.heap.size) :
    Own w7 B2 3 v7 (i64s ([].take 0 ++ ([x] ++ [].drop 0))) ∧ Below W.heap.size W w7 ∧ w7.ranges Try.prog 3 RB W.heap.size R N D left cnt ∧ B2 ≤ w7.heap.size := by
  have hr := (hR.alloc (.cells #[.int .i64 x] 3)).kept (w' := (w.alloc (.cells #[.int .i64 x] 3)).drew) (row := none) ⟨rfl, rfl, rfl, Nat.le_refl _, fun _ _ _ => rfl⟩ (by simp) (by simp)
  refine ⟨ho, (hB.alloc hB.size _).drew.trans (hb.mono (by omega)), hr.kept hg (by simp [Value.ownBlock]) (by simp [Value.ownBlock]), ?_⟩
  have := hg.size
  simp at this
  omega
theorem flat_at (ls : List (List Spn)) (k : Nat) (h : k < ls.length) : ls.flatten = (ls.take k).flatten ++ ls[k] ++ (ls.drop (k + 1)).flatten := by
  have e : ls = ls.take k ++ ls[k] :: ls.drop (k + 1) := by rw [← List.drop_eq_getElem_cons h, List.take_append_drop]
  conv => lhs; rw [e]
  rw [List.flatten_append, List.flatten_cons, List.append_assoc]
set_option maxRecDepth 100000 in
set_option maxHeartbeats 4000000 in
theorem ends_any (w : World) (v : Value) (ls : List (List Spn)) (h : Lls w v ls) (hb : ∀ l ∈ ls, ∀ x ∈ l, I64 x.1 ∧ I64 x.2) (hn : ls.flatten.length ≤ 500) (hn2 : ls.length ≤ 100) : Calls Try.prog 25 #[v] w (EndsP ls w) := by
  have UH := Lib.hid h
  have HB := Lib.hid hb
  obtain ⟨a, cap, rfl, -⟩ := h
  clear hb
  have hmm := @run_makeMap Try.prog
  obtain ⟨w0, e0, m0, g0⟩ := (mi_made w).put (x := 0) (by unfold I64; omega) (by omega)
  have hE0 := Lib.hid (show ERel w [] w0 from ⟨(m0.congr (T := EndOf []) (fun x => by simp [EndOf])), ((Below.refl _ w).alloc (Nat.le_refl _) _).grown g0 (by simp) (fun k hk => by cases hk; exact Nat.le_refl _)⟩)
  clear m0 g0
  go_enter Try.func25, Try.ntmps25
  go_wp2_with fail
  clear e0
  go_loopw [15] (fun i wr => ∃ k : Nat, k ≤ ls.length ∧ i = .int .i64 (k : Int) ∧ Hid (ERel w (ls.take k).flatten wr)) (fun i _ => ls.length - (intOf i).toNat)
  case atStart => exact ⟨0, Nat.zero_le _, rfl, hE0⟩
  case round =>
    clear hE0
    obtain ⟨k, hk, rfl, hE⟩ := hrel
    by_cases hlt : k < ls.length
    · obtain ⟨a', cap', e, hc⟩ := UH.out
      simp only [Value.slice.injEq] at e
      obtain ⟨rfl, _, rfl⟩ := e
      obtain ⟨ad, u, rfl, c0, hsp⟩ := hc k hlt
      clear hc
      have i1 : (0 : Int) ≤ (k : Int) := by omega
      have i2 : (k : Int) < (ls.length : Int) := by omega
      have y0 := keepCell hE.out.2 c0
      have hSp := Lib.hid hsp
      have hTk := List.take_succ_eq_append_getElem hlt
      have hflat : ls.flatten.length = ((ls.take k).flatten ++ ls[k] ++ (ls.drop (k + 1)).flatten).length := by
        rw [← flat_at ls k hlt]
      have hB1 := Lib.hid (HB.out ls[k] (List.getElem_mem hlt))
      generalize ls[k] = l at *
      obtain ⟨p, c, rfl, -⟩ := hsp
      have hLn : ((ls.take k).flatten).length + l.length ≤ 500 := by rw [List.length_append, List.length_append] at hflat; omega
      clear c0 hflat
      have hE1 : Hid (ERel w ((ls.take k).flatten ++ l.take 0) wr) := by simpa using hE
      go_wp2_with fail
      go_loopw [21] (fun i wr => ∃ m : Nat, m ≤ l.length ∧ i = .int .i64 (m : Int) ∧ Hid (ERel w ((ls.take k).flatten ++ l.take m) wr)) (fun i _ => l.length - (intOf i).toNat)
      case atStart => exact ⟨0, Nat.zero_le _, rfl, hE1⟩
      case round =>
        clear hE1 hE y0
        obtain ⟨m, hm, rfl, hF⟩ := hrel
        by_cases hml : m < l.length
        · obtain ⟨ad2, rfl, x0, x1⟩ := hSp.out.at_ m hml
          have j1 : (0 : Int) ≤ (m : Int) := by omega
          have j2 : (m : Int) < (l.length : Int) := by omega
          have z0 := keepCell hF.out.2 x0
          have z1 := keepCell hF.out.2 x1
          have hT2 := List.take_succ_eq_append_getElem hml
          have hfit := hB1.out l[m] (List.getElem_mem hml)
          generalize l[m] = x at *
          obtain ⟨xf, xt⟩ := x
          simp only at z0 z1 hfit
          have e0 : (wr.alloc (.cells #[.int .i64 xf, .int .i64 xt] 26)).cell? ⟨wr.heap.size, 0, none⟩ = some (.int .i64 xf) := by rw [World.cell?_alloc_new]; rfl
          have e1 : (wr.alloc (.cells #[.int .i64 xf, .int .i64 xt] 26)).cell? ⟨wr.heap.size, 1, none⟩ = some (.int .i64 xt) := by rw [World.cell?_alloc_new]; rfl
          have hFx := Lib.hid (hF.out.below ((Below.refl _ wr).alloc (Nat.le_refl _) (.cells #[.int .i64 xf, .int .i64 xt] 26)))
          have hne : wr.heap.size ≠ w.heap.size := fun e => by have := hF.out.1.lt; omega
          go_upto_region 8 with fail
          clear x0 x1 z0 z1
          generalize wr.alloc (.cells #[.int .i64 xf, .int .i64 xt] 26) = wx at *
          generalize wr.heap.size = X at *
          obtain ⟨wA, wB, q1, q2, hG, kA, kB⟩ := ERel.put (y := (xf, xt)) (hFx.out.below (Below.refl _ _).drew) hfit.1 hfit.2 (by rw [List.length_append, List.length_take]; omega)
          have a0 := kA ⟨X, 0, none⟩ _ e0 hne
          have a1 := kA ⟨X, 1, none⟩ _ e1 hne
          have b0 := kB ⟨X, 0, none⟩ _ e0 hne
          have b1 := kB ⟨X, 1, none⟩ _ e1 hne
          have hGH := Lib.hid hG
          clear kA kB hG hF hFx
          simp only at q1 q2
          rcases (show (xf < 0 ∧ max xf 0 = 0) ∨ (¬ xf < 0 ∧ max xf 0 = xf) by omega) with ⟨u1, u2⟩ | ⟨u1, u2⟩ <;> rcases (show (xt < 0 ∧ max xt 0 = 0) ∨ (¬ xt < 0 ∧ max xt 0 = xt) by omega) with ⟨u3, u4⟩ | ⟨u3, u4⟩
          all_goals
            rw [u2] at q1
            rw [u4] at q2
            clear u2 u4
            go_region_held3 (fun w' => w'.cell? ⟨X, 0, none⟩ = some (.int .i64 xf) ∧ w'.cell? ⟨X, 1, none⟩ = some (.int .i64 xt)) (first | (go_split_ands; refine ⟨?_, ?_⟩ <;> assumption) | go_keep) (fail)
            all_goals
              go_wp2_with fail
              go_roundw
              case rel => first | exact ⟨m + 1, by omega, by go_num, by rw [hT2, ← List.append_assoc]; exact hGH⟩ | ((repeat apply Exists.intro); exact ⟨⟨m + 1, by omega, by go_num, by rw [hT2, ← List.append_assoc]; exact hGH⟩, rfl⟩)
              case measure => simp [intOf]; omega
        · obtain rfl : m = l.length := by omega
          rw [List.take_length] at hF
          have hF2 : Hid (ERel w (ls.take (k + 1)).flatten wr) := by rw [hTk]; simpa using hF
          clear hF
          go_wp2_with fail
          go_roundw
          case rel => first | exact ⟨k + 1, by omega, by go_num, hF2⟩ | ((repeat apply Exists.intro); exact ⟨⟨k + 1, by omega, by go_num, hF2⟩, rfl⟩)
          case measure => simp [intOf]; omega
    · obtain rfl : k = ls.length := by omega
      rw [List.take_length] at hE
      clear UH HB
      obtain ⟨⟨D, hown, hIs, hD⟩, hbw⟩ := hE.out
      have hOwn := Lib.hid hown
      have HD := Lib.hid hD
      have HBW := Lib.hid hbw
      have hbl := hown.lt
      have hsize := size_le hown
      clear hE hown hD hbw
      go_wp2_with (first | (at_range; refine wpList_range_own _ rfl _ 46 rfl 3 4 int_key Try.underlying46 _ w.heap.size _ D rfl hOwn.out ?_; intro w2 hrg0 hg0 hs0) | go_in)
      go_frame
      have hB2 := Lib.hid (HBW.out.grown hg0 HBW.out.size (fun k hk => by cases hk))
      have hrl := hrg0.lt
      have hRG := Lib.hid hrg0
      have hRb := hrg0.ne
      clear hg0 hs0 hrg0 hOwn HBW
      generalize wr.heap.size = R at *
      have hb2 : w.heap.size < w2.heap.size := by have := hRG.out.owns.lt; exact this
      generalize hN : 1 + 2 * ls.flatten.length = N at *
      go_loopw [8] (fun v wx => ∃ (left : Lit → Bool) (cnt : Nat) (o : List Int), Hid (wx.ranges Try.prog 3 RB w.heap.size R N D left cnt) ∧ Hid (Out D left o) ∧ (∃ p c, v = .slice p o.length c) ∧ o.length + cnt ≤ N ∧ Hid (Own wx w2.heap.size 3 v (i64s o)) ∧ Hid (Below w.heap.size w wx) ∧ w2.heap.size ≤ wx.heap.size) (fun _ wx => wx.rangeLeft w.heap.size R)
      case atStart => exact ⟨_, _, [], hRG, Lib.hid ⟨.nil, fun x => by simp⟩, ⟨_, _, rfl⟩, by simpa using hsize, Lib.hid (own_nil _ _ _), hB2, Nat.le_refl _⟩
      case round =>
        clear hRG hB2 hsize
        obtain ⟨left, cnt, o, hrg, hout, ⟨p, c, rfl⟩, hcn, hoo, hbx, hsx⟩ := hrel
        go_wp2_with (first | (at_next; refine wpList_next_ranges _ rfl _ rfl 3 int_key RB (Value.int .i64) (fun u : Value => u) (fun key kl h => ⟨_, (Maps.keyOf_int_inv Try.underlying3 h).choose_spec.1⟩) (fun v y h => ⟨v, rfl⟩) w.heap.size R N D left cnt rfl hrg.out ?_ ?_) | go_in)
        · intro hc0 hl0
          have hmem := out_done hout.out hl0
          go_wp2_with fail
          go_ret
          exact ⟨_, o, rfl, Own.ints hoo.out, hout.out.1, fun x => (hmem x).trans (HD.out x), by omega, hbx.out⟩
        · intro x cb kl y ps w1 cnt1 hkx hlx hRy hat hrg1 hlt1 hg1 hs1 hen
          obtain ⟨x', e1, rfl, hwf⟩ := Maps.keyOf_int_inv Try.underlying3 hkx
          obtain rfl : x = x' := by simpa using e1
          have hDx := Maps.has_true_of_atKey hat
          have hMs : w1.rangeLeft w.heap.size R < wr.rangeLeft w.heap.size R := by rw [hrg1.left_eq, hrg.out.left_eq]; exact hlt1
          have hO1 := Lib.hid (hoo.out.keep hg1 (own_ne hoo.out hrl))
          have hB1 := Lib.hid (hbx.out.grown hg1 hbx.out.size (fun k hk => by cases hk; omega))
          have hR1 := Lib.hid hrg1
          have hLX := Lib.hid hlx
          have hDX := Lib.hid hDx
          have hsx2 : w2.heap.size ≤ w1.heap.size := by omega
          clear hkx hlx hRy hat hg1 hwf e1 hrg hoo hbx hDx hs1 hsx
          go_wp2_with fail
          go_loopw [10] (fun kv wz => ∃ k : Nat, k ≤ o.length ∧ kv = .int .i64 (k : Int) ∧ wz = w1 ∧ Hid (Gt o x k)) (fun kv _ => (intOf kv).toNat)
          case atStart => exact ⟨o.length, Nat.le_refl _, rfl, rfl, Lib.hid (gt_start o x)⟩
          case round =>
            obtain ⟨k, hk, rfl, rfl, hG⟩ := hrel
            have hcut := hO1.out
            rcases hcut.2 with ⟨e, h0⟩ | ⟨g, cap', cur, e, hbg, hblk, hcc, _⟩
            · rw [i64s_len] at h0
              obtain rfl : o = [] := List.eq_nil_of_length_eq_zero h0
              simp only [Value.slice.injEq] at e
              obtain ⟨rfl, _, rfl⟩ := e
              obtain rfl : k = 0 := by simpa using hk
              have OO := Lib.hid (out_step hout.out hLX.out hDX.out hk hG.out (.inl rfl))
              clear hG hout
              go_upto_region 18 with fail
              go_region_held3 (fun _ => True) (trivial)
                (first
                  | (refine own_append_step (by rfl) _ _ 39 (by rfl) w2.heap.size 3 (.int .i64 0) 8 Try.underlying39 (by kernel_rfl) rfl (.slice none 0 0) [] rfl (own_nil _ _ _) ⟨wr.heap.size, 0, none⟩ 1 _ [.int .i64 x] rfl rfl (lit_news wr x) (fun u hu => i64s_one [x] u hu) (by simp) (by simp) (by simp <;> omega) ?_; intro v7 w7 ho7 hg7 hb7 hat7; have Q7 := Lib.hid (nil7 hB1.out hR1.out ho7 hg7 hb7 hb2 hsx2); clear ho7 hg7 hb7 hat7))
              all_goals
                obtain ⟨q1, q2, q3, q4⟩ := Q7.out
                have NN := Lib.hid q1
                have RR := Lib.hid q3
                have BB := Lib.hid q2
                have LEN : ∃ p c, v7 = .slice p ([].take 0 ++ ([x] ++ [].drop 0)).length c := by have := q1.len; rwa [i64s_len] at this
                clear q1 q2 q3 Q7
                go_wp2_with fail
                go_roundw
                case rel => first | exact ⟨_, cnt1, [].take 0 ++ ([x] ++ [].drop 0), RR, OO, LEN, by simp at hcn ⊢; omega, NN, BB, q4⟩ | ((repeat apply Exists.intro); exact ⟨⟨_, cnt1, [].take 0 ++ ([x] ++ [].drop 0), RR, OO, LEN, by simp at hcn ⊢; omega, NN, BB, q4⟩, rfl⟩)
                case measure => rw [RR.out.left_eq, ← hR1.out.left_eq]; exact hMs
            simp only [Value.slice.injEq] at e
            obtain ⟨rfl, -, rfl⟩ := e
            rw [i64s_len] at hcc
            have kc : (k : Int) ≤ (c : Int) := by omega
            have kl : (k : Int) ≤ (o.length : Int) := by omega
            have kz : (0 : Int) ≤ (k : Int) := by omega
            have lc : (o.length : Int) ≤ (c : Int) := by omega
            clear hcut
            rcases Nat.eq_zero_or_pos k with hk0 | hk0
            · have he : k = 0 ∨ ∃ h : k - 1 < o.length, ¬ x < o[k - 1] := .inl hk0
              have OO := Lib.hid (out_step hout.out hLX.out hDX.out hk hG.out he)
              subst hk0
              clear hG hout he
              go_upto_region 18 with fail
              go_region_held3 (fun _ => True) (trivial)
                (first
                  | (refine own_append_step (by rfl) _ _ 39 (by rfl) wr.heap.size 3 (.int .i64 0) 8 Try.underlying39 (by kernel_rfl) rfl (.slice (some ⟨wr.heap.size, 0, none⟩) 1 1) [.int .i64 x] rfl (own_lit wr wr.heap.size 3 (.int .i64 x) (Nat.le_refl _)).drew ⟨g, 0, none⟩ o.length _ ((i64s o).drop 0) rfl (by simp [i64s_len]) (Own.cells (hO1.out.alloc _).drew 0) (fun u hu => i64s_one _ u (List.mem_of_mem_drop hu)) (by simp <;> omega) (by simp <;> omega) (by simp) ?_; intro v6 w6 ho6 hg6 hb6 hat6; obtain ⟨g6, c6, rfl⟩ := own_some ho6 (by simp); have O6 := Lib.hid ho6; have Q6 := Lib.hid (mid6 hO1.out hB1.out hR1.out hg6 hb6 (by omega) (by omega) hbg hsx2); clear ho6 hg6 hb6 hat6)
                  | (refine own_append_step (by rfl) _ _ 39 (by rfl) w2.heap.size 3 (.int .i64 0) 8 Try.underlying39 (by kernel_rfl) rfl (.slice (some ⟨g, 0, none⟩) 0 c) ((i64s o).take 0) rfl (Own.part Q6.out.1 0 (by rw [i64s_len]; exact hk)) ⟨g6, 0, none⟩ _ _ ([.int .i64 x] ++ (i64s o).drop 0) rfl rfl (Own.cells O6.out 0) (fun u hu => i64s_one (x :: o.drop 0) u (by simpa [i64s, List.map_drop] using hu)) (by simp [i64s] <;> omega) (by simp [i64s] <;> omega) Q6.out.2.2.2 ?_; intro v7 w7 ho7 hg7 hb7 hat7; have Q7 := Lib.hid (end7 Q6.out ho7 hg7 hb7 hbg hrl hb2); clear ho7 hg7 hb7 hat7 O6 Q6))
              all_goals
                obtain ⟨q1, q2, q3, q4⟩ := Q7.out
                have NN := Lib.hid q1
                have RR := Lib.hid q3
                have BB := Lib.hid q2
                have LEN : ∃ p c, v7 = .slice p (o.take 0 ++ ([x] ++ o.drop 0)).length c := by have := q1.len; rwa [i64s_len] at this
                clear q1 q2 q3 Q7
                go_wp2_with fail
                go_roundw
                case rel => first | exact ⟨_, cnt1, o.take 0 ++ ([x] ++ o.drop 0), RR, OO, LEN, by rw [ins_len hk]; omega, NN, BB, q4⟩ | ((repeat apply Exists.intro); exact ⟨⟨_, cnt1, o.take 0 ++ ([x] ++ o.drop 0), RR, OO, LEN, by rw [ins_len hk]; omega, NN, BB, q4⟩, rfl⟩)
                case measure => rw [RR.out.left_eq, ← hR1.out.left_eq]; exact hMs
            · have htl : k - 1 < o.length := by omega
              obtain ⟨g0, e0, m0⟩ := hO1.out.at_ (k - 1) (by rw [i64s_len]; exact htl)
              obtain rfl : g = g0 := by simpa using e0
              have m1 : wr.cell? ⟨g, k - 1, none⟩ = some (.int .i64 o[k - 1]) := by rw [m0]; simp [i64s]
              have kd : decide (0 < k) = true := decide_eq_true (by omega)
              have k1 : (0 : Int) ≤ (k : Int) - 1 := by omega
              have k2 : (k : Int) - 1 < (o.length : Int) := by omega
              clear m0 e0
              by_cases hz : x < o[k - 1]
              · have HG2 := Lib.hid (gt_step (k := k - 1) (by rw [show k - 1 + 1 = k by omega]; exact hG.out) htl hz)
                clear hG
                generalize o[k - 1] = z at *
                have hzd : decide (x < z) = true := decide_eq_true hz
                go_wp2_with fail
                go_roundw
                case rel => exact ⟨k - 1, by omega, by congr 1; omega, (by first | rfl | trivial), HG2⟩
                case measure => simp [intOf]; omega
              · have he : k = 0 ∨ ∃ h : k - 1 < o.length, ¬ x < o[k - 1] := .inr ⟨htl, hz⟩
                have OO := Lib.hid (out_step hout.out hLX.out hDX.out hk hG.out he)
                clear he
                have he := trivial
                generalize o[k - 1] = z at *
                have hzd : decide (x < z) = false := decide_eq_false hz
                clear hG hout he
                by_cases hck : k = c
                · subst hck
                  go_upto_region 18 with fail
                  go_region_held3 (fun _ => True) (trivial)
                    (first
                      | (refine own_append_step (by rfl) _ _ 39 (by rfl) wr.heap.size 3 (.int .i64 0) 8 Try.underlying39 (by kernel_rfl) rfl (.slice (some ⟨wr.heap.size, 0, none⟩) 1 1) [.int .i64 x] rfl (own_lit wr wr.heap.size 3 (.int .i64 x) (Nat.le_refl _)).drew ⟨g, k, none⟩ (o.length - k) _ ((i64s o).drop k) rfl (by rw [List.length_drop, i64s_len]) (Own.cells (hO1.out.alloc _).drew k) (fun u hu => i64s_one _ u (List.mem_of_mem_drop hu)) (by simp <;> omega) (by simp <;> omega) (by simp) ?_; intro v6 w6 ho6 hg6 hb6 hat6; obtain ⟨g6, c6, rfl⟩ := own_some ho6 (by simp); have O6 := Lib.hid ho6; have Q6 := Lib.hid (mid6 hO1.out hB1.out hR1.out hg6 hb6 (by omega) (by omega) hbg hsx2); clear ho6 hg6 hb6 hat6)
                      | (refine own_append_step (by rfl) _ _ 39 (by rfl) wr.heap.size 3 (.int .i64 0) 8 Try.underlying39 (by kernel_rfl) rfl (.slice (some ⟨wr.heap.size, 0, none⟩) 1 1) [.int .i64 x] rfl (own_lit wr wr.heap.size 3 (.int .i64 x) (Nat.le_refl _)).drew ⟨g, 0, none⟩ 0 _ ((i64s o).drop k) rfl (by rw [List.length_drop, i64s_len]; omega) (fun j u hu => by rw [List.drop_eq_nil_of_le (by rw [i64s_len]; omega)] at hu; simp at hu) (fun u hu => i64s_one _ u (List.mem_of_mem_drop hu)) (by simp <;> omega) (by simp <;> omega) (by simp) ?_; intro v6 w6 ho6 hg6 hb6 hat6; obtain ⟨g6, c6, rfl⟩ := own_some ho6 (by simp); have O6 := Lib.hid ho6; have Q6 := Lib.hid (mid6 hO1.out hB1.out hR1.out hg6 hb6 (by omega) (by omega) hbg hsx2); clear ho6 hg6 hb6 hat6)
                      | (refine own_append_step (by rfl) _ _ 39 (by rfl) w2.heap.size 3 (.int .i64 0) 8 Try.underlying39 (by kernel_rfl) rfl (.slice (some ⟨g, 0, none⟩) k k) ((i64s o).take k) rfl (Own.part Q6.out.1 k (by rw [i64s_len]; exact hk)) ⟨g6, 0, none⟩ _ _ ([.int .i64 x] ++ (i64s o).drop k) rfl rfl (Own.cells O6.out 0) (fun u hu => i64s_one (x :: o.drop k) u (by simpa [i64s, List.map_drop] using hu)) (by simp [i64s] <;> omega) (by simp [i64s] <;> omega) Q6.out.2.2.2 ?_; intro v7 w7 ho7 hg7 hb7 hat7; have Q7 := Lib.hid (end7 Q6.out ho7 hg7 hb7 hbg hrl hb2); clear ho7 hg7 hb7 hat7 O6 Q6))
                  all_goals
                    obtain ⟨q1, q2, q3, q4⟩ := Q7.out
                    have NN := Lib.hid q1
                    have RR := Lib.hid q3
                    have BB := Lib.hid q2
                    have LEN : ∃ p c, v7 = .slice p (o.take k ++ ([x] ++ o.drop k)).length c := by have := q1.len; rwa [i64s_len] at this
                    clear q1 q2 q3 Q7
                    go_wp2_with fail
                    go_roundw
                    case rel => first | exact ⟨_, cnt1, o.take k ++ ([x] ++ o.drop k), RR, OO, LEN, by rw [ins_len hk]; omega, NN, BB, q4⟩ | ((repeat apply Exists.intro); exact ⟨⟨_, cnt1, o.take k ++ ([x] ++ o.drop k), RR, OO, LEN, by rw [ins_len hk]; omega, NN, BB, q4⟩, rfl⟩)
                    case measure => rw [RR.out.left_eq, ← hR1.out.left_eq]; exact hMs
                · have hck2 : ¬ c = k := fun e => hck e.symm
                  go_upto_region 18 with fail
                  go_region_held3 (fun _ => True) (trivial)
                    (first
                      | (refine own_append_step (by rfl) _ _ 39 (by rfl) wr.heap.size 3 (.int .i64 0) 8 Try.underlying39 (by kernel_rfl) rfl (.slice (some ⟨wr.heap.size, 0, none⟩) 1 1) [.int .i64 x] rfl (own_lit wr wr.heap.size 3 (.int .i64 x) (Nat.le_refl _)).drew ⟨g, k, none⟩ (o.length - k) _ ((i64s o).drop k) rfl (by rw [List.length_drop, i64s_len]) (Own.cells (hO1.out.alloc _).drew k) (fun u hu => i64s_one _ u (List.mem_of_mem_drop hu)) (by simp <;> omega) (by simp <;> omega) (by simp) ?_; intro v6 w6 ho6 hg6 hb6 hat6; obtain ⟨g6, c6, rfl⟩ := own_some ho6 (by simp); have O6 := Lib.hid ho6; have Q6 := Lib.hid (mid6 hO1.out hB1.out hR1.out hg6 hb6 (by omega) (by omega) hbg hsx2); clear ho6 hg6 hb6 hat6)
                      | (refine own_append_step (by rfl) _ _ 39 (by rfl) wr.heap.size 3 (.int .i64 0) 8 Try.underlying39 (by kernel_rfl) rfl (.slice (some ⟨wr.heap.size, 0, none⟩) 1 1) [.int .i64 x] rfl (own_lit wr wr.heap.size 3 (.int .i64 x) (Nat.le_refl _)).drew ⟨g, 0, none⟩ 0 _ ((i64s o).drop k) rfl (by rw [List.length_drop, i64s_len]; omega) (fun j u hu => by rw [List.drop_eq_nil_of_le (by rw [i64s_len]; omega)] at hu; simp at hu) (fun u hu => i64s_one _ u (List.mem_of_mem_drop hu)) (by simp <;> omega) (by simp <;> omega) (by simp) ?_; intro v6 w6 ho6 hg6 hb6 hat6; obtain ⟨g6, c6, rfl⟩ := own_some ho6 (by simp); have O6 := Lib.hid ho6; have Q6 := Lib.hid (mid6 hO1.out hB1.out hR1.out hg6 hb6 (by omega) (by omega) hbg hsx2); clear ho6 hg6 hb6 hat6)
                      | (refine own_append_step (by rfl) _ _ 39 (by rfl) w2.heap.size 3 (.int .i64 0) 8 Try.underlying39 (by kernel_rfl) rfl (.slice (some ⟨g, 0, none⟩) k c) ((i64s o).take k) rfl (Own.part Q6.out.1 k (by rw [i64s_len]; exact hk)) ⟨g6, 0, none⟩ _ _ ([.int .i64 x] ++ (i64s o).drop k) rfl rfl (Own.cells O6.out 0) (fun u hu => i64s_one (x :: o.drop k) u (by simpa [i64s, List.map_drop] using hu)) (by simp [i64s] <;> omega) (by simp [i64s] <;> omega) Q6.out.2.2.2 ?_; intro v7 w7 ho7 hg7 hb7 hat7; have Q7 := Lib.hid (end7 Q6.out ho7 hg7 hb7 hbg hrl hb2); clear ho7 hg7 hb7 hat7 O6 Q6))
                  all_goals
                    obtain ⟨q1, q2, q3, q4⟩ := Q7.out
                    have NN := Lib.hid q1
                    have RR := Lib.hid q3
                    have BB := Lib.hid q2
                    have LEN : ∃ p c, v7 = .slice p (o.take k ++ ([x] ++ o.drop k)).length c := by have := q1.len; rwa [i64s_len] at this
                    clear q1 q2 q3 Q7
                    go_wp2_with fail
                    go_roundw
                    case rel => first | exact ⟨_, cnt1, o.take k ++ ([x] ++ o.drop k), RR, OO, LEN, by rw [ins_len hk]; omega, NN, BB, q4⟩ | ((repeat apply Exists.intro); exact ⟨⟨_, cnt1, o.take k ++ ([x] ++ o.drop k), RR, OO, LEN, by rw [ins_len hk]; omega, NN, BB, q4⟩, rfl⟩)
                    case measure => rw [RR.out.left_eq, ← hR1.out.left_eq]; exact hMs
end Go.Proofs.Ythpenogkejoljaa.Sp
