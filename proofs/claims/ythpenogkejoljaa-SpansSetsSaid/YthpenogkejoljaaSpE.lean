/-
  PROVED HERE: the program's spans.Of. Conditions: as each theorem states.
-/
import Derived.Test.YthpenogkejoljaaSpD
import Derived.Deep.DeepCutAuto
import Derived.Deep.RegionWith
import Derived.Deep.RegionHeld3
import Derived.BigQuiet
namespace Go.Proofs.Ythpenogkejoljaa.Sp
open Go.RowKit
def OfP (l : List Spn) (w : World) (e : Ending) (w' : World) : Prop := ∃ v r, e = .returned v ∧ Sps w' v r ∧ Same l r ∧ r.length ≤ l.length ∧ (∀ x ∈ r, I64 x.1 ∧ I64 x.2) ∧ Below w.heap.size w w'
theorem lit2 (w : World) (o c : Obj) : ((w.alloc o).alloc c).heap[w.heap.size + 1]? = some c := by
  have := heap_alloc_new (w.alloc o) c
  rwa [World.size_alloc] at this
theorem max_zero (x : Int) : (if (0 : Int) ≤ x then x else 0) = max x 0 := by split <;> omega
set_option maxRecDepth 100000 in
set_option maxHeartbeats 4000000 in
theorem of_any (w : World) (v : Value) (l : List Spn) (h : Sps w v l) (hb : ∀ x ∈ l, I64 x.1 ∧ I64 x.2) (hn : l.length ≤ 10000) : Calls Try.prog 19 #[v] w (OfP l w) := by
  have UH := Lib.hid h
  have HB := Lib.hid hb
  obtain ⟨a, cap, rfl, -⟩ := h
  clear hb
  go_enter Try.func19, Try.ntmps19
  go_wp2_with fail
  go_loopw [3, 12] (fun v i wr => ∃ k : Nat, k ≤ l.length ∧ i = .int .i64 (k : Int) ∧ (∃ p c, v = .slice p (flt (l.take k)).length c) ∧ Hid (OwnS wr w.heap.size v (flt (l.take k)) ∧ Below w.heap.size w wr)) (fun _ i _ => l.length - (intOf i).toNat)
  case atStart => exact ⟨0, Nat.zero_le _, rfl, ⟨_, _, rfl⟩, Lib.hid ⟨ownS_nil _ _, Below.refl _ _⟩⟩
  case round =>
    obtain ⟨k, hk, rfl, ⟨p, c, rfl⟩, hS⟩ := hrel
    by_cases hlt : k < l.length
    · obtain ⟨ad, rfl, x0, x1⟩ := UH.out.at_ k hlt
      have i1 : (0 : Int) ≤ (k : Int) := by omega
      have i2 : (k : Int) < (l.length : Int) := by omega
      have hbw := hS.out.2
      have y0 := (hbw.cell (p := ad.add (k * 2)) (World.block_lt_of_cell? w _ x0)).trans x0
      have y1 := (hbw.cell (p := ⟨(ad.add (k * 2)).block, (ad.add (k * 2)).off + 1, none⟩) (World.block_lt_of_cell? w _ x1)).trans x1
      clear x0 x1 hbw
      have hT := List.take_succ_eq_append_getElem hlt
      generalize l[k] = x at *
      obtain ⟨xf, xt⟩ := x
      simp only at y0 y1
      have hlen : (flt (l.take k)).length ≤ k := by have := flt_len (l.take k); rw [List.length_take] at this; omega
      by_cases hx : max xf 0 < xt
      · have hF := flt_snoc_yes (l := l.take k) (x := (xf, xt)) hx
        rw [← hT] at hF
        simp only at hF
        have hxd : decide (max xf 0 < xt) = true := decide_eq_true hx
        go_wp2_with (at_builtin; refine ownS_append1 rfl _ _ rfl w.heap.size _ _ rfl ((hS.out.1.alloc _).alloc _) _ 1 (_, xt) rfl (lit2 _ _ _) (by omega) (by have := hS.out.2.size; simp; omega) ?_; intro v1 w3 ho hg hbl hat; have hS3 := Lib.hid (And.intro (hF ▸ ho) ((hS.out.2.alloc hS.out.2.size _).alloc (by have := hS.out.2.size; simp; omega) _ |>.trans hbl)); clear ho hg hbl hat)
        go_roundw
        case rel => first | exact ⟨k + 1, by omega, by go_num, hS3.out.1.len, hS3⟩ | ((repeat apply Exists.intro); exact ⟨⟨k + 1, by omega, by go_num, hS3.out.1.len, hS3⟩, rfl⟩)
        case measure => simp [intOf]; omega
      · have hF := flt_snoc_no (l := l.take k) (x := (xf, xt)) hx
        rw [← hT] at hF
        have hxd : decide (max xf 0 < xt) = false := decide_eq_false hx
        go_wp2_with fail
        go_roundw
        case rel => first | exact ⟨k + 1, by omega, by go_num, ⟨_, _, by rw [hF]⟩, Lib.hid (by rw [hF]; exact ⟨hS.out.1.alloc _, hS.out.2.alloc hS.out.2.size _⟩)⟩ | ((repeat apply Exists.intro); exact ⟨⟨k + 1, by omega, by go_num, ⟨_, _, by rw [hF]⟩, Lib.hid (by rw [hF]; exact ⟨hS.out.1.alloc _, hS.out.2.alloc hS.out.2.size _⟩)⟩, rfl⟩)
        case measure => simp [intOf]; omega
    · obtain rfl : k = l.length := by omega
      rw [List.take_length] at hS
      simp only [List.take_length]
      have hfl := flt_len l
      have HG := Lib.hid (fun y (hy : y ∈ flt l) => flt_good hy)
      have HF := Lib.hid (flt_fit HB.out)
      generalize hq : flt l = q at *
      have HQ := Lib.hid hq
      clear hq
      have hsort : ∃ n, Hid (∀ w2, w2 = wr → Calls Try.prog 28 #[.slice p q.length c, .func (.func 29) #[] #[]] w2 fun e w' => e = .returned (.tuple #[]) ∧ ∃ d' : List Spn, d'.length = q.length ∧ d'.Perm q ∧ (∀ i j, ∀ _h1 : i < j, ∀ h : j < d'.length, (d'[i]'(by omega)).1 ≤ d'[j].1) ∧ Sps w' (.slice p q.length c) d' ∧ Below w.heap.size w w') ∧ n = 0 := by
        refine ⟨0, Lib.hid ?_, rfl⟩
        rintro w2 rfl
        have hS1 := hS.out.1
        rcases hS1.2 with ⟨e, h0⟩ | ⟨g, cap', cur, e, _⟩
        · simp only [Value.slice.injEq] at e
          obtain ⟨rfl, _, rfl⟩ := e
          obtain rfl : q = [] := List.eq_nil_of_length_eq_zero h0
          exact (sort_none _).mono fun _ _ ⟨h1, h2⟩ => ⟨h1, [], rfl, .nil, fun i j _ h => absurd h (Nat.not_lt_zero j), ⟨none, 0, rfl, fun j hj => absurd hj (Nat.not_lt_zero j)⟩, by subst h2; exact hS.out.2⟩
        · simp only [Value.slice.injEq] at e
          obtain ⟨rfl, _, rfl⟩ := e
          exact (sort_any _ w.heap.size g c q hS1 (by omega)).mono fun _ _ ⟨h1, d', h2, h3, h4, h5⟩ => ⟨h1, d', h2.length_eq, h2, h3, h4, hS.out.2.trans h5⟩
      obtain ⟨_, hsort, -⟩ := hsort
      go_wp2_with fail
      refine (hsort.out _ rfl).mono ?_; rintro e w2 ⟨rfl, s, hsl, hp, hso, hss, hb2⟩
      have SS := Lib.hid hss
      have SO := Lib.hid hso
      have SP := Lib.hid hp
      have B2 := Lib.hid hb2
      clear hsort hss hso hp hb2 hS UH HB
      go_wp2_with fail
      go_loopw [6, 34] (fun v i wr => ∃ (k : Nat) (o : List Spn), k ≤ q.length ∧ i = .int .i64 (k : Int) ∧ (∃ p c, v = .slice p o.length c) ∧ o.length ≤ k ∧ Hid (Mg s k o) ∧ Hid (∀ y ∈ o, I64 y.1 ∧ I64 y.2) ∧ Hid (OwnS wr w2.heap.size v o ∧ Below w2.heap.size w2 wr)) (fun _ i _ => q.length - (intOf i).toNat)
      case atStart => exact ⟨0, [], Nat.zero_le _, rfl, ⟨_, _, rfl⟩, Nat.le_refl _, Lib.hid (mg_zero s), Lib.hid (fun y hy => (by cases hy)), Lib.hid ⟨ownS_nil _ _, Below.refl _ _⟩⟩
      case round =>
        obtain ⟨k, o, hk, rfl, ⟨p2, c2, rfl⟩, hok, hM, hI, hO⟩ := hrel
        by_cases hlt : k < q.length
        · have hks : k < s.length := by omega
          obtain ⟨ad, rfl, x0, x1⟩ := SS.out.at_ k hks
          have i1 : (0 : Int) ≤ (k : Int) := by omega
          have i2 : (k : Int) < (q.length : Int) := by omega
          have hbw := hO.out.2
          have y0 := (hbw.cell (p := ad.add (k * 2)) (World.block_lt_of_cell? w2 _ x0)).trans x0
          have y1 := (hbw.cell (p := ⟨(ad.add (k * 2)).block, (ad.add (k * 2)).off + 1, none⟩) (World.block_lt_of_cell? w2 _ x1)).trans x1
          clear x0 x1 hbw
          have hmem : s[k] ∈ q := SP.out.mem_iff.1 (List.getElem_mem hks)
          obtain ⟨z0, z1⟩ := HG.out _ hmem
          have hfit := HF.out _ hmem
          have hnew := Lib.hid (mg_new hM.out hks z0 z1)
          have hgrow := Lib.hid (fun o' x (e : o = o' ++ [x]) (h2 : s[k].1 ≤ x.2) => mg_grow (x := x) (o := o') (e ▸ hM.out) hks (fun j hj => SO.out j k hj hks) z1 h2)
          clear hmem
          generalize s[k] = x at *
          obtain ⟨xf, xt⟩ := x
          simp only at y0 y1 z0 z1 hfit
          have e0 : (wr.alloc (.cells #[.int .i64 xf, .int .i64 xt] 26)).cell? ⟨wr.heap.size, 0, none⟩ = some (.int .i64 xf) := by rw [World.cell?_alloc_new]; rfl
          have e1 : (wr.alloc (.cells #[.int .i64 xf, .int .i64 xt] 26)).cell? ⟨wr.heap.size, 1, none⟩ = some (.int .i64 xt) := by rw [World.cell?_alloc_new]; rfl
          have hOx := Lib.hid (And.intro (hO.out.1.alloc (.cells #[.int .i64 xf, .int .i64 xt] 26)) (hO.out.2.alloc hO.out.2.size (.cells #[.int .i64 xf, .int .i64 xt] 26)))
          have hap := Lib.hid (fun e => Nat.lt_irrefl _ (World.ownsRow.lt hO.out.1 wr.heap.size e).2)
          go_upto_region 15 with fail
          generalize wr.alloc (.cells #[.int .i64 xf, .int .i64 xt] 26) = wx at *
          generalize wr.heap.size = X at *
          clear hO y0 y1
          rcases List.eq_nil_or_concat o with ho | ⟨o', x, ho⟩
          · have MM := Lib.hid (hnew.out (fun y hy => by rw [ho] at hy; cases hy))
            have j3 : decide (0 < o.length) = false := decide_eq_false (by rw [ho]; simp)
            have j3b : o.length = 0 := by rw [ho]; rfl
            have II : Hid (∀ y ∈ o ++ [(xf, xt)], I64 y.1 ∧ I64 y.2) := Lib.hid (fun y hy => by
              rw [ho] at hy
              obtain rfl := List.mem_singleton.1 hy
              exact hfit)
            clear hgrow hnew hM hI ho
            go_quiet (fail)
            all_goals
              go_wp2_with (at_builtin; refine ownS_append1 rfl _ _ rfl w2.heap.size _ _ rfl ((hOx.out.1.drewN nq).alloc _) _ 1 (xf, xt) rfl (heap_alloc_new (wx.drewN nq) _) (by omega) (by have := hOx.out.2.size; simp; omega) ?_; intro v1 w3 ho hg hbl hat; have hO3 := Lib.hid (And.intro ho (((below_drewN hOx.out.2 nq).alloc (w := wx.drewN nq) hOx.out.2.size _).trans hbl)); clear ho hg hbl hat)
              have LEN := hO3.out.1.len
              go_roundw
              case rel => first | exact ⟨k + 1, o ++ [(xf, xt)], by omega, by go_num, LEN, by simp; omega, MM, II, hO3⟩ | ((repeat apply Exists.intro); exact ⟨⟨k + 1, o ++ [(xf, xt)], by omega, by go_num, LEN, by simp; omega, MM, II, hO3⟩, rfl⟩)
              case measure => simp [intOf]; omega
          · rw [List.concat_eq_append] at ho
            obtain ⟨xa, xb⟩ := x
            have hol : o.length = o'.length + 1 := by rw [ho]; simp
            obtain ⟨ad2, hp2, c0, c1⟩ := hOx.out.1.sps.at_ o'.length (by omega)
            have hown := hOx.out.1
            rcases hown.2 with ⟨e, h0⟩ | ⟨g2, cap', cur, e, hbg, hblk, _⟩
            · exfalso; rw [hol] at h0; omega
            simp only [Value.slice.injEq] at e
            obtain ⟨rfl, _, rfl⟩ := e
            obtain rfl : ad2 = ⟨g2, 0, none⟩ := by simpa using hp2.symm
            clear hp2
            have hlast : o[o'.length]'(by omega) = (xa, xb) := by simp [ho]
            rw [hlast] at c0 c1
            rw [Addr.add_mid, Nat.zero_add] at c0 c1
            simp only at c0 c1
            clear hlast
            have hfz : wx.frozen? ⟨g2, o'.length * 2 + 1, none⟩ = false := by simp [World.frozen?, hblk]
            have hset : ∀ M : Int, o.set o'.length (xa, M) = o' ++ [(xa, M)] := fun M => by rw [ho]; simp
            have hset2 : (o[o'.length]'(by omega)).1 = xa := by simp [ho]
            have hown2 : Hid (∀ n M, OwnS ((wx.drewN n).setCell ⟨g2, o'.length * 2 + 1, none⟩ (.int .i64 M)) w2.heap.size (.slice (some ⟨g2, 0, none⟩) (o'.length + 1) c2) (o' ++ [(xa, M)])) := Lib.hid (fun n M => by
              have h := (hOx.out.1.drewN n).setTo o'.length (by omega) M
              rw [hset2, hset M, hol] at h
              exact h)
            clear hset2
            generalize ht : o'.length = t at *
            have j0 : IntKind.i64.wrap ((o.length : Int) - 1) = (t : Int) := by rw [IntWalk.i64_in _ (by omega)]; omega
            have j1 : (0 : Int) ≤ (t : Int) := by omega
            have j2 : (t : Int) < (o.length : Int) := by omega
            have j3 : decide (0 < o.length) = true := decide_eq_true (by omega)
            have j3b : 0 < o.length := by omega
            have hgX : g2 ≠ X := fun e => hap.out (by rw [← e]; rfl)
            by_cases hle : xf ≤ xb
            · have j4 : decide (xf ≤ xb) = true := decide_eq_true hle
              have hmg := Lib.hid (hgrow.out o' (xa, xb) ho hle)
              have HI2 := Lib.hid (fun (M : Int) (hM' : M = xb ∨ M = xt) (y : Spn) (hy : y ∈ o' ++ [(xa, M)]) => (show I64 y.1 ∧ I64 y.2 from by
                have hxx := hI.out (xa, xb) (by rw [ho]; exact List.mem_append_right _ (List.mem_singleton.2 rfl))
                rcases List.mem_append.1 hy with hy | hy
                · exact hI.out y (by rw [ho]; exact List.mem_append_left _ hy)
                · obtain rfl := List.mem_singleton.1 hy
                  rcases hM' with rfl | rfl
                  · exact hxx
                  · exact ⟨hxx.1, hfit.2⟩))
              have HT := Lib.hid ht
              have II := Lib.hid (HI2.out (max xb xt) (by omega))
              clear hgrow hnew hM hown ho ht hset hblk
              go_quiet (fail)
              all_goals
                go_wp2_with fail
                go_region
                all_goals
                  go_wp2_with fail
                  have O3 := Lib.hid (And.intro (hown2.out (nq + 1) (max xb xt)) ((below_drewN hOx.out.2 (nq + 1)).setCell (p := ⟨g2, t * 2 + 1, none⟩) hbg (.int .i64 (max xb xt))))
                  go_roundw
                  case rel => first | exact ⟨k + 1, o' ++ [(xa, max xb xt)], by omega, by go_num, ⟨_, _, by rw [List.length_append, HT.out]; rfl⟩, by rw [List.length_append, HT.out]; simp only [List.length_cons, List.length_nil]; omega, hmg, II, O3⟩ | ((repeat apply Exists.intro); exact ⟨⟨k + 1, o' ++ [(xa, max xb xt)], by omega, by go_num, ⟨_, _, by rw [List.length_append, HT.out]; rfl⟩, by rw [List.length_append, HT.out]; simp only [List.length_cons, List.length_nil]; omega, hmg, II, O3⟩, rfl⟩)
                  case measure => simp [intOf]; omega
            · have j4 : decide (xf ≤ xb) = false := decide_eq_false hle
              have MM := Lib.hid (hnew.out (by rw [ho]; exact behind (ho ▸ hM.out.1) (by simp only; omega)))
              have II : Hid (∀ y ∈ o ++ [(xf, xt)], I64 y.1 ∧ I64 y.2) := Lib.hid (fun y hy => by
                rcases List.mem_append.1 hy with hy | hy
                · exact hI.out y hy
                · obtain rfl := List.mem_singleton.1 hy
                  exact hfit)
              clear hgrow hnew hM hI hown ho ht
              go_quiet (fail)
              all_goals
                go_wp2_with (at_builtin; refine ownS_append1 rfl _ _ rfl w2.heap.size _ _ rfl ((hOx.out.1.drewN nq).alloc _) _ 1 (xf, xt) rfl (heap_alloc_new (wx.drewN nq) _) (by omega) (by have := hOx.out.2.size; simp; omega) ?_; intro v1 w3 ho hg hbl hat; have hO3 := Lib.hid (And.intro ho (((below_drewN hOx.out.2 nq).alloc (w := wx.drewN nq) hOx.out.2.size _).trans hbl)); clear ho hg hbl hat)
                have LEN := hO3.out.1.len
                go_roundw
                case rel => first | exact ⟨k + 1, o ++ [(xf, xt)], by omega, by go_num, LEN, by simp; omega, MM, II, hO3⟩ | ((repeat apply Exists.intro); exact ⟨⟨k + 1, o ++ [(xf, xt)], by omega, by go_num, LEN, by simp; omega, MM, II, hO3⟩, rfl⟩)
                case measure => simp [intOf]; omega
        · obtain rfl : k = q.length := by omega
          have hM2 := hM.out
          rw [← hsl] at hM2
          have hSame := merged (HQ.out.symm ▸ SP.out) hM2
          go_wp2_with fail
          go_ret
          exact ⟨_, o, rfl, hO.out.1.sps, hSame, by omega, hI.out, B2.out.trans (hO.out.2.mono B2.out.size)⟩
end Go.Proofs.Ythpenogkejoljaa.Sp
