/-
  PROVED HERE: the contract of xxd.line. Conditions: as each theorem states.
-/
import Derived.Test.YtnbpninnanjemaaDoorXlA
import Derived.Test.YtnbpninnanjemaaDoorLzW
import Derived.Test.YtnbpninnanjemaaDoorTac
namespace Go.Proofs.YtnbpninnanjemaaDoor.Xl
open Go.RowKit Lz Dig
/-- What the program's line hands back. -/
def lnV (r : Option Nat × Option Nat × List UInt8) : Value :=
  match r.1 with
  | some p => .tuple #[.int .i64 0, .string ⟨#[]⟩, .int .i64 (p : Int), .bool false]
  | none => .tuple #[.int .i64 (match r.2.1 with | some n => (n : Int) | none => -1), .string ⟨r.2.2.toArray⟩, .int .i64 0, .bool true]
def LnP (l : ByteArray) (w : World) (e : Ending) (w' : World) : Prop := e = .returned (lnV (ln l)) ∧ Below w.heap.size w w'
theorem col_ge (l : ByteArray) : -1 ≤ col l := Lib.indexByte_ge _ _
theorem col_lt (l : ByteArray) (h : 0 ≤ col l) : (col l).toNat < l.size := by
  obtain ⟨o, ho⟩ := Int.eq_ofNat_of_zero_le h
  have := (Lib.indexByte_some (l := l.data.toList) (c := 58) (o := o) ho).1
  have h2 : o < l.data.toList.length := (List.getElem?_eq_some_iff.1 this).1
  rw [ho]
  exact h2
theorem ln_none {l : ByteArray} (h : col l < 0) {S : Option Nat × List UInt8} (hs : scan l 0 0 [] = S) : ln l = (S.1, none, S.2) := by unfold ln; rw [if_pos h, hs]
theorem ln_bad {l : ByteArray} (h : ¬ col l < 0) (h2 : pe (hd l) 16 ≠ 0 ∨ 4000 < pv (hd l) 16) : ln l = (some 0, none, []) := by unfold ln; rw [if_neg h, if_pos h2]
theorem ln_at {l : ByteArray} (h : ¬ col l < 0) (h2 : ¬ (pe (hd l) 16 ≠ 0 ∨ 4000 < pv (hd l) 16)) {f : Nat} (hf : f = (col l).toNat + 1) {S : Option Nat × List UInt8} (hs : scan l f f [] = S) : ln l = (S.1, some (pv (hd l) 16), S.2) := by unfold ln; rw [if_neg h, if_neg h2, ← hf, hs]
set_option maxRecDepth 100000 in
set_option maxHeartbeats 8000000 in
theorem line_none (l : ByteArray) (hl : l.size ≤ 2000) (hc0 : col l < 0) (W : World) : Calls Tryd.prog 26 #[.string l] W (LnP l W) := by
  have CI : Hid (∀ W, Calls Tryd.prog 33 #[.string l, .int .u8 58] W fun e w' => e = .returned (.int .i64 (col l)) ∧ W = w') := Lib.hid (fun W => (Tryd.strings_IndexByte l 58 W).mono fun e w' ⟨h1, h2⟩ => ⟨h1, h2.symm⟩)
  have hF0 := Lib.hid (fun S => ln_none hc0 (S := S))
  obtain ⟨S, hSS⟩ : ∃ S, scan l 0 0 [] = S := ⟨_, rfl⟩
  have hS0 := Lib.hid hSS
  have hFin : Hid (lnV (ln l) = lnV (S.1, none, S.2)) := Lib.hid (by rw [hF0.out S hSS])
  have B0 := Lib.hid (Below.refl W.heap.size W)
  have hFl : 0 ≤ l.size := Nat.zero_le _
  have hcm : col l = -1 := by have := col_ge l; omega
  rw [hcm] at CI
  clear hF0 hSS hc0 hcm
  go_enter Tryd.func26, Tryd.ntmps26
  go_wp2_with fail
  refine (CI.out _).mono ?_; rintro e w' ⟨rfl, rfl⟩
  go_wp2_with fail
  go_loopw [11, 12] (fun bb ii wr => ∃ (i : Nat) (acc : List UInt8), i ≤ l.size ∧ 0 ≤ i ∧ ii = .int .i64 (i : Int) ∧ acc.length ≤ i ∧ (∃ x c, bb = .slice x acc.length c) ∧ Hid (Own wr W.heap.size 5 bb (u8s acc)) ∧ Hid (scan l 0 i acc = S) ∧ Hid (Below W.heap.size W wr)) (fun _ ii _ => l.size - (intOf ii).toNat)
  case atStart => exact ⟨0, [], hFl, Nat.le_refl _, by first | rfl | go_num, Nat.zero_le _, ⟨_, _, rfl⟩, Lib.hid (own_nil _ _ _), hS0, B0⟩
  case round =>
    obtain ⟨i, acc, hi, hfi, rfl, hal, ⟨xa, xc, rfl⟩, hO, hS, hB⟩ := hrel
    by_cases hlt : i < l.size
    · have i1 : (0 : Int) ≤ (i : Int) := by omega
      have i2 : (i : Int) < (l.size : Int) := by omega
      obtain ⟨c, hc⟩ : ∃ c : Nat, (l[i]'hlt).toNat = c := ⟨_, rfl⟩
      have hcu : (ub l i).toNat = c := by rw [← hc, ub_eq l i hlt]
      have hc2 : c < 256 := by rw [← hcu]; exact ub_lt _ _
      by_cases h32 : c = 32
      · have e1 : ((c : Int) == 32) = true := by rw [beq_iff_eq]; omega
        have hu32 : ub l i = 32 := UInt8.toNat_inj.1 (by rw [hcu, h32]; rfl)
        by_cases htwo : 0 < i ∧ i + 1 < l.size ∧ ub l (i + 1) = 32
        · have hSe := Lib.hid ((scan_two hlt hu32 htwo acc).symm.trans hS.out)
          obtain ⟨t1, t2, t3⟩ := htwo
          have hd : ((l[i + 1]'t2).toNat) = 32 := by rw [ub_eq l _ t2, t3]; rfl
          have d2 : (i : Int) + 1 < (l.size : Int) := by omega
          have d3 : 0 < (i : Int) := by omega
          have cv : ∀ W', W' = wr → (convert 41 9 (.slice xa acc.length xc)).run Tryd.prog W' = .ok (.string ⟨acc.toArray⟩) W' := fun W' hW => by
            subst hW
            exact own_string hO.out Tryd.underlying41 Tryd.underlying5 Tryd.underlying9
          have cv1 : (convert 41 9 (.slice xa acc.length xc)).run Tryd.prog wr.drew = .ok (.string ⟨acc.toArray⟩) wr.drew := own_string hO.out.drew Tryd.underlying41 Tryd.underlying5 Tryd.underlying9
          clear cv hu32 t3 hcu
          go_wp2_with fail
          go_region_with (fail)
          all_goals
            go_wp2_with fail
            refine bodyPost_ret (v := .tuple #[.int .i64 (-1), .string ⟨acc.toArray⟩, .int .i64 0, .bool true]) (by simp [results, Tryd.results26, go_sem]) rfl ?_
            exact ⟨by rw [hFin.out, ← hSe.out]; rfl, hB.out.drew⟩
        · have hSe := Lib.hid ((scan_blank hlt hu32 htwo acc).symm.trans hS.out)
          have hcase : l.size ≤ i + 1 ∨ (i + 1 < l.size ∧ ub l (i + 1) ≠ 32) ∨ (i + 1 < l.size ∧ ub l (i + 1) = 32 ∧ i ≤ 0) := by
            rcases Nat.lt_or_ge (i + 1) l.size with q | q
            · by_cases q2 : ub l (i + 1) = 32
              · exact .inr (.inr ⟨q, q2, Nat.le_of_not_lt (fun h => htwo ⟨h, q, q2⟩)⟩)
              · exact .inr (.inl ⟨q, q2⟩)
            · exact .inl q
          clear htwo hu32 hcu hS
          rcases hcase with t1 | ⟨t1, t2⟩ | ⟨t1, t2, t3⟩
          · have d2 : (l.size : Int) ≤ (i : Int) + 1 := by omega
            go_wp2_with fail
            go_roundw
            case rel => first | exact ⟨i + 1, acc, by omega, by omega, by go_num, by omega, ⟨_, _, rfl⟩, hO, hSe, hB⟩ | ((repeat apply Exists.intro); exact ⟨⟨i + 1, acc, by omega, by omega, by go_num, by omega, ⟨_, _, rfl⟩, hO, hSe, hB⟩, rfl⟩)
            case measure => first | (simp [intOf]; done) | (simp [intOf]; omega)
          · have d2 : (i : Int) + 1 < (l.size : Int) := by omega
            obtain ⟨c', hc'⟩ : ∃ c' : Nat, (l[i + 1]'t1).toNat = c' := ⟨_, rfl⟩
            have hn : c' ≠ 32 := fun h => t2 (UInt8.toNat_inj.1 (by rw [← ub_eq l _ t1, hc', h]; rfl))
            have e2 : ((c' : Int) == 32) = false := by rw [beq_eq_false_iff_ne]; omega
            clear t2 hn
            go_wp2_with fail
            go_roundw
            case rel => first | exact ⟨i + 1, acc, by omega, by omega, by go_num, by omega, ⟨_, _, rfl⟩, hO, hSe, hB⟩ | ((repeat apply Exists.intro); exact ⟨⟨i + 1, acc, by omega, by omega, by go_num, by omega, ⟨_, _, rfl⟩, hO, hSe, hB⟩, rfl⟩)
            case measure => first | (simp [intOf]; done) | (simp [intOf]; omega)
          · have d2 : (i : Int) + 1 < (l.size : Int) := by omega
            have hd : ((l[i + 1]'t1).toNat) = 32 := by rw [ub_eq l _ t1, t2]; rfl
            have d3 : (i : Int) ≤ 0 := by omega
            clear t2
            go_wp2_with fail
            go_roundw
            case rel => first | exact ⟨i + 1, acc, by omega, by omega, by go_num, by omega, ⟨_, _, rfl⟩, hO, hSe, hB⟩ | ((repeat apply Exists.intro); exact ⟨⟨i + 1, acc, by omega, by omega, by go_num, by omega, ⟨_, _, rfl⟩, hO, hSe, hB⟩, rfl⟩)
            case measure => first | (simp [intOf]; done) | (simp [intOf]; omega)
      · have e1 : ((c : Int) == 32) = false := by rw [beq_eq_false_iff_ne]; omega
        have hu32 : ub l i ≠ 32 := fun h => h32 (by rw [← hcu, h]; rfl)
        have D1 := Lib.hid (fun W => digit_any (c : Int) (by omega) (by omega) W)
        have hdg : dig (c : Int) = dg l i := by unfold dg; rw [hcu]
        rw [hdg] at D1
        have hb1 := dg_bounds l i
        clear hdg hcu
        by_cases hnext : i + 1 < l.size
        · have d2 : (i : Int) + 1 < (l.size : Int) := by omega
          obtain ⟨c', hc'⟩ : ∃ c' : Nat, (l[i + 1]'hnext).toNat = c' := ⟨_, rfl⟩
          have hcu' : (ub l (i + 1)).toNat = c' := by rw [← hc', ub_eq l _ hnext]
          have hc2' : c' < 256 := by rw [← hcu']; exact ub_lt _ _
          have D2 := Lib.hid (fun W => digit_any (c' : Int) (by omega) (by omega) W)
          have hdg' : dig (c' : Int) = dg l (i + 1) := by unfold dg; rw [hcu']
          rw [hdg'] at D2
          have hb2 := dg_bounds l (i + 1)
          clear hdg' hcu'
          by_cases hbad : dg l i < 0 ∨ dg l (i + 1) < 0
          · have hSe := Lib.hid ((scan_bad hlt hu32 (.inr hbad) acc).symm.trans hS.out)
            clear hu32 hS
            generalize dg l i = x at *
            generalize dg l (i + 1) = y at *
            by_cases hx : x < 0
            · go_wp2_with fail
              refine (D1.out _).mono ?_; rintro e w' ⟨rfl, rfl⟩
              go_wp2_with fail
              refine (D2.out _).mono ?_; rintro e w' ⟨rfl, rfl⟩
              go_wp2_with fail
              refine bodyPost_ret (v := .tuple #[.int .i64 0, .string ⟨#[]⟩, .int .i64 (i : Int), .bool false]) (by simp [results, Tryd.results26, go_sem]) rfl ?_
              exact ⟨by rw [hFin.out, ← hSe.out]; rfl, hB.out⟩
            · have hx' : 0 ≤ x := by omega
              have hy : y < 0 := by omega
              clear hbad
              go_wp2_with fail
              refine (D1.out _).mono ?_; rintro e w' ⟨rfl, rfl⟩
              go_wp2_with fail
              refine (D2.out _).mono ?_; rintro e w' ⟨rfl, rfl⟩
              go_wp2_with fail
              refine bodyPost_ret (v := .tuple #[.int .i64 0, .string ⟨#[]⟩, .int .i64 (i : Int), .bool false]) (by simp [results, Tryd.results26, go_sem]) rfl ?_
              exact ⟨by rw [hFin.out, ← hSe.out]; rfl, hB.out⟩
          · have hSe := Lib.hid ((scan_byte hlt hu32 (by omega) acc).symm.trans hS.out)
            obtain ⟨x, hx⟩ := Int.eq_ofNat_of_zero_le (show 0 ≤ dg l i by omega)
            obtain ⟨y, hy⟩ := Int.eq_ofNat_of_zero_le (show 0 ≤ dg l (i + 1) by omega)
            have ob := i64_join 4 (x * 16) y (by omega) (by omega) (by omega) (by omega)
            obtain ⟨v, hv⟩ : ∃ v : Nat, v = x * 16 + y := ⟨_, rfl⟩
            have hb : by2 l i = UInt8.ofNat v := by unfold by2; rw [hx, hy, hv]; exact congrArg UInt8.ofNat (by simp only [Int.toNat_natCast]; omega)
            have hv2 : v < 256 := by omega
            have hvb : ((UInt8.ofNat v).toNat : Int) = (v : Int) := by rw [UInt8.toNat_ofNat']; omega
            rw [← hv, show ((x * 16 : Nat) : Int) = (x : Int) * 16 by omega] at ob
            have HU : Hid (u8s acc ++ [.int .u8 (v : Int)] = u8s (acc ++ [by2 l i])) := Lib.hid (by rw [hb, ← u8s_snoc, hvb])
            have hul : (u8s acc).length = acc.length := u8s_len acc
            have L1 := Lib.hid (show ((u8s acc).length + 1) * 1 ≤ 1000000000000 ∧ (u8s acc).length + 1 ≤ 1000000000000 by omega)
            rw [hx] at D1
            rw [hy] at D2
            have hx16 : x ≤ 15 := by omega
            have hy16 : y ≤ 15 := by omega
            generalize by2 l i = b2 at *
            obtain ⟨m2, hm2⟩ : ∃ m2, m2 = acc ++ [b2] := ⟨_, rfl⟩
            have hml : m2.length = acc.length + 1 := by rw [hm2]; simp
            have HML := Lib.hid hml
            rw [← hm2] at HU hSe
            clear hx hy hu32 hS hbad hb hv hvb hul hm2 hml hb1 hb2
            go_wp2_with fail
            refine (D1.out _).mono ?_; rintro e w' ⟨rfl, rfl⟩
            go_wp2_with fail
            refine (D2.out _).mono ?_; rintro e w' ⟨rfl, rfl⟩
            go_wp2_with (at_builtin; refine own_append1 rfl _ _ 41 rfl W.heap.size 5 (.int .u8 0) 1 Tryd.underlying41 infoU8 rfl _ _ rfl (hO.out.alloc _) wr.heap.size 1 (.int .u8 (v : Int)) rfl (new_cell _ _ _) rfl L1.out.1 L1.out.2 (le_alloc hB.out.size _) ?_; intro v' w' ho' hg' hb' hat'; rw [HU.out] at ho'; obtain ⟨x', c', hv'⟩ := ho'.len; rw [u8s_len] at hv'; subst hv'; have hO4 := Lib.hid ho'; have hB4 := Lib.hid (below_append hB.out _ hB.out.size hb'); clear ho' hg' hb' hat' hB hO)
            go_roundw
            case rel => first | exact ⟨i + 2, m2, by omega, by omega, by go_num, by have := HML.out; omega, ⟨_, _, rfl⟩, hO4, hSe, hB4⟩ | ((repeat apply Exists.intro); exact ⟨⟨i + 2, m2, by omega, by omega, by go_num, by have := HML.out; omega, ⟨_, _, rfl⟩, hO4, hSe, hB4⟩, rfl⟩)
            case measure => first | (simp [intOf]; done) | (simp [intOf]; omega)
        · have d2 : (l.size : Int) ≤ (i : Int) + 1 := by omega
          have hSe := Lib.hid ((scan_bad hlt hu32 (.inl (by omega)) acc).symm.trans hS.out)
          clear hu32 hS
          generalize dg l i = x at *
          by_cases hx : x < 0
          all_goals
            go_wp2_with fail
            refine (D1.out _).mono ?_; rintro e w' ⟨rfl, rfl⟩
            go_wp2_with fail
            refine bodyPost_ret (v := .tuple #[.int .i64 0, .string ⟨#[]⟩, .int .i64 (i : Int), .bool false]) (by simp [results, Tryd.results26, go_sem]) rfl ?_
            exact ⟨by rw [hFin.out, ← hSe.out]; rfl, hB.out⟩
    · have hSe := Lib.hid ((scan_end (by omega) acc).symm.trans hS.out)
      have kd : decide (i < l.size) = false := decide_eq_false hlt
      have kd2 : decide ((i : Int) < (l.size : Int)) = false := decide_eq_false (by omega)
      have cv1 : (convert 41 9 (.slice xa acc.length xc)).run Tryd.prog wr.drew = .ok (.string ⟨acc.toArray⟩) wr.drew := own_string hO.out.drew Tryd.underlying41 Tryd.underlying5 Tryd.underlying9
      clear hS
      go_wp2_with fail
      go_region_with (fail)
      all_goals
        go_wp2_with fail
        refine bodyPost_ret (v := .tuple #[.int .i64 (-1), .string ⟨acc.toArray⟩, .int .i64 0, .bool true]) (by simp [results, Tryd.results26, go_sem]) rfl ?_
        exact ⟨by rw [hFin.out, ← hSe.out]; rfl, hB.out.drew⟩
set_option maxRecDepth 100000 in
set_option maxHeartbeats 8000000 in
theorem line_some (l : ByteArray) (hl : l.size ≤ 2000) (hc0 : ¬ col l < 0) (W : World) : Calls Tryd.prog 26 #[.string l] W (LnP l W) := by
  have CI : Hid (∀ W, Calls Tryd.prog 33 #[.string l, .int .u8 58] W fun e w' => e = .returned (.int .i64 (col l)) ∧ W = w') := Lib.hid (fun W => (Tryd.strings_IndexByte l 58 W).mono fun e w' ⟨h1, h2⟩ => ⟨h1, h2.symm⟩)
  have hlt0 := col_lt l (by omega)
  have CP : Hid (∀ W, Calls Tryd.prog 34 #[.string (hd l), .int .i64 16] W fun e w' => e = .returned (.tuple #[.int .u64 (pv (hd l) 16 : Nat), ev (pe (hd l) 16)]) ∧ Below W.heap.size W w') := Lib.hid (fun W => parse_yes (hd l) 16 ⟨by omega, by omega⟩ (by unfold hd; rw [ByteArray.size_extract]; omega) W)
  have HB := Lib.hid (ln_bad hc0)
  have HA := Lib.hid (ln_at hc0)
  obtain ⟨k, hk⟩ := Int.eq_ofNat_of_zero_le (show 0 ≤ col l by omega)
  have hhd : hd l = l.extract 0 k := by unfold hd; rw [hk]; rfl
  have hkl : k < l.size := by rw [hk] at hlt0; exact hlt0
  rw [hk] at CI HA
  generalize pv (hd l) 16 = n at *
  generalize pe (hd l) 16 = c at *
  rw [hhd] at CP
  have k0 : (0 : Int) ≤ (k : Int) := by omega
  have k1 : (k : Int) ≤ (l.size : Int) := by omega
  clear hk hhd hc0 hlt0
  by_cases hc : c = 0
  · subst hc
    have hev : ev 0 = .nilIface := rfl
    rw [hev] at CP
    by_cases hn : 4000 < n
    · have hn2 : (4000 : Int) < (n : Int) := by omega
      have hFin : Hid (lnV (ln l) = lnV (some 0, none, [])) := Lib.hid (by rw [HB.out (.inr hn)])
      go_enter Tryd.func26, Tryd.ntmps26
      go_wp2_with fail
      refine (CI.out _).mono ?_; rintro e w' ⟨rfl, rfl⟩
      go_wp2_with fail
      refine (CP.out _).mono ?_; rintro e w1 ⟨rfl, hb⟩
      have B0 := Lib.hid hb
      clear hb
      go_wp2_with fail
      refine bodyPost_ret (v := .tuple #[.int .i64 0, .string ⟨#[]⟩, .int .i64 0, .bool false]) (by simp [results, Tryd.results26, go_sem]) rfl ?_
      exact ⟨by rw [hFin.out]; rfl, B0.out⟩
    · have hn2 : (n : Int) ≤ 4000 := by omega
      obtain ⟨f, hf⟩ : ∃ f, f = k + 1 := ⟨_, rfl⟩
      obtain ⟨S, hSS⟩ : ∃ S, scan l f f [] = S := ⟨_, rfl⟩
      have hS0 := Lib.hid hSS
      have hFin : Hid (lnV (ln l) = lnV (S.1, some n, S.2)) := Lib.hid (by rw [HA.out (by omega) (f := f) (by rw [hf]; rfl) hSS])
      have hFl : f ≤ l.size := by omega
      have hfI : (k : Int) + 1 = (f : Int) := by omega
      clear HB HA hSS hf hn
      go_enter Tryd.func26, Tryd.ntmps26
      go_wp2_with fail
      refine (CI.out _).mono ?_; rintro e w' ⟨rfl, rfl⟩
      go_wp2_with fail
      refine (CP.out _).mono ?_; rintro e w1 ⟨rfl, hb⟩
      have B0 := Lib.hid hb
      clear hb
      go_wp2_with fail
      clear hfI
      go_loopw [11, 12] (fun bb ii wr => ∃ (i : Nat) (acc : List UInt8), i ≤ l.size ∧ f ≤ i ∧ ii = .int .i64 (i : Int) ∧ acc.length ≤ i ∧ (∃ x c, bb = .slice x acc.length c) ∧ Hid (Own wr W.heap.size 5 bb (u8s acc)) ∧ Hid (scan l f i acc = S) ∧ Hid (Below W.heap.size W wr)) (fun _ ii _ => l.size - (intOf ii).toNat)
      case atStart => exact ⟨f, [], hFl, Nat.le_refl _, by first | rfl | go_num, Nat.zero_le _, ⟨_, _, rfl⟩, Lib.hid (own_nil _ _ _), hS0, B0⟩
      case round =>
        obtain ⟨i, acc, hi, hfi, rfl, hal, ⟨xa, xc, rfl⟩, hO, hS, hB⟩ := hrel
        by_cases hlt : i < l.size
        · have i1 : (0 : Int) ≤ (i : Int) := by omega
          have i2 : (i : Int) < (l.size : Int) := by omega
          obtain ⟨c, hc⟩ : ∃ c : Nat, (l[i]'hlt).toNat = c := ⟨_, rfl⟩
          have hcu : (ub l i).toNat = c := by rw [← hc, ub_eq l i hlt]
          have hc2 : c < 256 := by rw [← hcu]; exact ub_lt _ _
          by_cases h32 : c = 32
          · have e1 : ((c : Int) == 32) = true := by rw [beq_iff_eq]; omega
            have hu32 : ub l i = 32 := UInt8.toNat_inj.1 (by rw [hcu, h32]; rfl)
            by_cases htwo : f < i ∧ i + 1 < l.size ∧ ub l (i + 1) = 32
            · have hSe := Lib.hid ((scan_two hlt hu32 htwo acc).symm.trans hS.out)
              obtain ⟨t1, t2, t3⟩ := htwo
              have hd : ((l[i + 1]'t2).toNat) = 32 := by rw [ub_eq l _ t2, t3]; rfl
              have d2 : (i : Int) + 1 < (l.size : Int) := by omega
              have d3 : (f : Int) < (i : Int) := by omega
              have cv : ∀ W', W' = wr → (convert 41 9 (.slice xa acc.length xc)).run Tryd.prog W' = .ok (.string ⟨acc.toArray⟩) W' := fun W' hW => by
                subst hW
                exact own_string hO.out Tryd.underlying41 Tryd.underlying5 Tryd.underlying9
              have cv1 : (convert 41 9 (.slice xa acc.length xc)).run Tryd.prog wr.drew = .ok (.string ⟨acc.toArray⟩) wr.drew := own_string hO.out.drew Tryd.underlying41 Tryd.underlying5 Tryd.underlying9
              clear cv hu32 t3 hcu
              go_wp2_with fail
              go_region_with (fail)
              all_goals
                go_wp2_with fail
                refine bodyPost_ret (v := .tuple #[.int .i64 (n : Int), .string ⟨acc.toArray⟩, .int .i64 0, .bool true]) (by simp [results, Tryd.results26, go_sem]) rfl ?_
                exact ⟨by rw [hFin.out, ← hSe.out]; rfl, hB.out.drew⟩
            · have hSe := Lib.hid ((scan_blank hlt hu32 htwo acc).symm.trans hS.out)
              have hcase : l.size ≤ i + 1 ∨ (i + 1 < l.size ∧ ub l (i + 1) ≠ 32) ∨ (i + 1 < l.size ∧ ub l (i + 1) = 32 ∧ i ≤ f) := by
                rcases Nat.lt_or_ge (i + 1) l.size with q | q
                · by_cases q2 : ub l (i + 1) = 32
                  · exact .inr (.inr ⟨q, q2, Nat.le_of_not_lt (fun h => htwo ⟨h, q, q2⟩)⟩)
                  · exact .inr (.inl ⟨q, q2⟩)
                · exact .inl q
              clear htwo hu32 hcu hS
              rcases hcase with t1 | ⟨t1, t2⟩ | ⟨t1, t2, t3⟩
              · have d2 : (l.size : Int) ≤ (i : Int) + 1 := by omega
                go_wp2_with fail
                go_roundw
                case rel => first | exact ⟨i + 1, acc, by omega, by omega, by go_num, by omega, ⟨_, _, rfl⟩, hO, hSe, hB⟩ | ((repeat apply Exists.intro); exact ⟨⟨i + 1, acc, by omega, by omega, by go_num, by omega, ⟨_, _, rfl⟩, hO, hSe, hB⟩, rfl⟩)
                case measure => first | (simp [intOf]; done) | (simp [intOf]; omega)
              · have d2 : (i : Int) + 1 < (l.size : Int) := by omega
                obtain ⟨c', hc'⟩ : ∃ c' : Nat, (l[i + 1]'t1).toNat = c' := ⟨_, rfl⟩
                have hn : c' ≠ 32 := fun h => t2 (UInt8.toNat_inj.1 (by rw [← ub_eq l _ t1, hc', h]; rfl))
                have e2 : ((c' : Int) == 32) = false := by rw [beq_eq_false_iff_ne]; omega
                clear t2 hn
                go_wp2_with fail
                go_roundw
                case rel => first | exact ⟨i + 1, acc, by omega, by omega, by go_num, by omega, ⟨_, _, rfl⟩, hO, hSe, hB⟩ | ((repeat apply Exists.intro); exact ⟨⟨i + 1, acc, by omega, by omega, by go_num, by omega, ⟨_, _, rfl⟩, hO, hSe, hB⟩, rfl⟩)
                case measure => first | (simp [intOf]; done) | (simp [intOf]; omega)
              · have d2 : (i : Int) + 1 < (l.size : Int) := by omega
                have hd : ((l[i + 1]'t1).toNat) = 32 := by rw [ub_eq l _ t1, t2]; rfl
                have d3 : (i : Int) ≤ (f : Int) := by omega
                clear t2
                go_wp2_with fail
                go_roundw
                case rel => first | exact ⟨i + 1, acc, by omega, by omega, by go_num, by omega, ⟨_, _, rfl⟩, hO, hSe, hB⟩ | ((repeat apply Exists.intro); exact ⟨⟨i + 1, acc, by omega, by omega, by go_num, by omega, ⟨_, _, rfl⟩, hO, hSe, hB⟩, rfl⟩)
                case measure => first | (simp [intOf]; done) | (simp [intOf]; omega)
          · have e1 : ((c : Int) == 32) = false := by rw [beq_eq_false_iff_ne]; omega
            have hu32 : ub l i ≠ 32 := fun h => h32 (by rw [← hcu, h]; rfl)
            have D1 := Lib.hid (fun W => digit_any (c : Int) (by omega) (by omega) W)
            have hdg : dig (c : Int) = dg l i := by unfold dg; rw [hcu]
            rw [hdg] at D1
            have hb1 := dg_bounds l i
            clear hdg hcu
            by_cases hnext : i + 1 < l.size
            · have d2 : (i : Int) + 1 < (l.size : Int) := by omega
              obtain ⟨c', hc'⟩ : ∃ c' : Nat, (l[i + 1]'hnext).toNat = c' := ⟨_, rfl⟩
              have hcu' : (ub l (i + 1)).toNat = c' := by rw [← hc', ub_eq l _ hnext]
              have hc2' : c' < 256 := by rw [← hcu']; exact ub_lt _ _
              have D2 := Lib.hid (fun W => digit_any (c' : Int) (by omega) (by omega) W)
              have hdg' : dig (c' : Int) = dg l (i + 1) := by unfold dg; rw [hcu']
              rw [hdg'] at D2
              have hb2 := dg_bounds l (i + 1)
              clear hdg' hcu'
              by_cases hbad : dg l i < 0 ∨ dg l (i + 1) < 0
              · have hSe := Lib.hid ((scan_bad hlt hu32 (.inr hbad) acc).symm.trans hS.out)
                clear hu32 hS
                generalize dg l i = x at *
                generalize dg l (i + 1) = y at *
                by_cases hx : x < 0
                · go_wp2_with fail
                  refine (D1.out _).mono ?_; rintro e w' ⟨rfl, rfl⟩
                  go_wp2_with fail
                  refine (D2.out _).mono ?_; rintro e w' ⟨rfl, rfl⟩
                  go_wp2_with fail
                  refine bodyPost_ret (v := .tuple #[.int .i64 0, .string ⟨#[]⟩, .int .i64 (i : Int), .bool false]) (by simp [results, Tryd.results26, go_sem]) rfl ?_
                  exact ⟨by rw [hFin.out, ← hSe.out]; rfl, hB.out⟩
                · have hx' : 0 ≤ x := by omega
                  have hy : y < 0 := by omega
                  clear hbad
                  go_wp2_with fail
                  refine (D1.out _).mono ?_; rintro e w' ⟨rfl, rfl⟩
                  go_wp2_with fail
                  refine (D2.out _).mono ?_; rintro e w' ⟨rfl, rfl⟩
                  go_wp2_with fail
                  refine bodyPost_ret (v := .tuple #[.int .i64 0, .string ⟨#[]⟩, .int .i64 (i : Int), .bool false]) (by simp [results, Tryd.results26, go_sem]) rfl ?_
                  exact ⟨by rw [hFin.out, ← hSe.out]; rfl, hB.out⟩
              · have hSe := Lib.hid ((scan_byte hlt hu32 (by omega) acc).symm.trans hS.out)
                obtain ⟨x, hx⟩ := Int.eq_ofNat_of_zero_le (show 0 ≤ dg l i by omega)
                obtain ⟨y, hy⟩ := Int.eq_ofNat_of_zero_le (show 0 ≤ dg l (i + 1) by omega)
                have ob := i64_join 4 (x * 16) y (by omega) (by omega) (by omega) (by omega)
                obtain ⟨v, hv⟩ : ∃ v : Nat, v = x * 16 + y := ⟨_, rfl⟩
                have hb : by2 l i = UInt8.ofNat v := by unfold by2; rw [hx, hy, hv]; exact congrArg UInt8.ofNat (by simp only [Int.toNat_natCast]; omega)
                have hv2 : v < 256 := by omega
                have hvb : ((UInt8.ofNat v).toNat : Int) = (v : Int) := by rw [UInt8.toNat_ofNat']; omega
                rw [← hv, show ((x * 16 : Nat) : Int) = (x : Int) * 16 by omega] at ob
                have HU : Hid (u8s acc ++ [.int .u8 (v : Int)] = u8s (acc ++ [by2 l i])) := Lib.hid (by rw [hb, ← u8s_snoc, hvb])
                have hul : (u8s acc).length = acc.length := u8s_len acc
                have L1 := Lib.hid (show ((u8s acc).length + 1) * 1 ≤ 1000000000000 ∧ (u8s acc).length + 1 ≤ 1000000000000 by omega)
                rw [hx] at D1
                rw [hy] at D2
                have hx16 : x ≤ 15 := by omega
                have hy16 : y ≤ 15 := by omega
                generalize by2 l i = b2 at *
                obtain ⟨m2, hm2⟩ : ∃ m2, m2 = acc ++ [b2] := ⟨_, rfl⟩
                have hml : m2.length = acc.length + 1 := by rw [hm2]; simp
                have HML := Lib.hid hml
                rw [← hm2] at HU hSe
                clear hx hy hu32 hS hbad hb hv hvb hul hm2 hml hb1 hb2
                go_wp2_with fail
                refine (D1.out _).mono ?_; rintro e w' ⟨rfl, rfl⟩
                go_wp2_with fail
                refine (D2.out _).mono ?_; rintro e w' ⟨rfl, rfl⟩
                go_wp2_with (at_builtin; refine own_append1 rfl _ _ 41 rfl W.heap.size 5 (.int .u8 0) 1 Tryd.underlying41 infoU8 rfl _ _ rfl (hO.out.alloc _) wr.heap.size 1 (.int .u8 (v : Int)) rfl (new_cell _ _ _) rfl L1.out.1 L1.out.2 (le_alloc hB.out.size _) ?_; intro v' w' ho' hg' hb' hat'; rw [HU.out] at ho'; obtain ⟨x', c', hv'⟩ := ho'.len; rw [u8s_len] at hv'; subst hv'; have hO4 := Lib.hid ho'; have hB4 := Lib.hid (below_append hB.out _ hB.out.size hb'); clear ho' hg' hb' hat' hB hO)
                go_roundw
                case rel => first | exact ⟨i + 2, m2, by omega, by omega, by go_num, by have := HML.out; omega, ⟨_, _, rfl⟩, hO4, hSe, hB4⟩ | ((repeat apply Exists.intro); exact ⟨⟨i + 2, m2, by omega, by omega, by go_num, by have := HML.out; omega, ⟨_, _, rfl⟩, hO4, hSe, hB4⟩, rfl⟩)
                case measure => first | (simp [intOf]; done) | (simp [intOf]; omega)
            · have d2 : (l.size : Int) ≤ (i : Int) + 1 := by omega
              have hSe := Lib.hid ((scan_bad hlt hu32 (.inl (by omega)) acc).symm.trans hS.out)
              clear hu32 hS
              generalize dg l i = x at *
              by_cases hx : x < 0
              all_goals
                go_wp2_with fail
                refine (D1.out _).mono ?_; rintro e w' ⟨rfl, rfl⟩
                go_wp2_with fail
                refine bodyPost_ret (v := .tuple #[.int .i64 0, .string ⟨#[]⟩, .int .i64 (i : Int), .bool false]) (by simp [results, Tryd.results26, go_sem]) rfl ?_
                exact ⟨by rw [hFin.out, ← hSe.out]; rfl, hB.out⟩
        · have hSe := Lib.hid ((scan_end (by omega) acc).symm.trans hS.out)
          have kd : decide (i < l.size) = false := decide_eq_false hlt
          have kd2 : decide ((i : Int) < (l.size : Int)) = false := decide_eq_false (by omega)
          have cv1 : (convert 41 9 (.slice xa acc.length xc)).run Tryd.prog wr.drew = .ok (.string ⟨acc.toArray⟩) wr.drew := own_string hO.out.drew Tryd.underlying41 Tryd.underlying5 Tryd.underlying9
          clear hS
          go_wp2_with fail
          go_region_with (fail)
          all_goals
            go_wp2_with fail
            refine bodyPost_ret (v := .tuple #[.int .i64 (n : Int), .string ⟨acc.toArray⟩, .int .i64 0, .bool true]) (by simp [results, Tryd.results26, go_sem]) rfl ?_
            exact ⟨by rw [hFin.out, ← hSe.out]; rfl, hB.out.drew⟩
  · have hev : ev c = .iface 22 (.int .i64 c) := by unfold ev; rw [if_neg hc]
    rw [hev] at CP
    have hFin : Hid (lnV (ln l) = lnV (some 0, none, [])) := Lib.hid (by rw [HB.out (.inl hc)])
    go_enter Tryd.func26, Tryd.ntmps26
    go_wp2_with fail
    refine (CI.out _).mono ?_; rintro e w' ⟨rfl, rfl⟩
    go_wp2_with fail
    refine (CP.out _).mono ?_; rintro e w1 ⟨rfl, hb⟩
    have B0 := Lib.hid hb
    clear hb
    go_wp2_with fail
    refine bodyPost_ret (v := .tuple #[.int .i64 0, .string ⟨#[]⟩, .int .i64 0, .bool false]) (by simp [results, Tryd.results26, go_sem]) rfl ?_
    exact ⟨by rw [hFin.out]; rfl, B0.out⟩
theorem line_any (l : ByteArray) (hl : l.size ≤ 2000) (W : World) : Calls Tryd.prog 26 #[.string l] W (LnP l W) := by
  by_cases h : col l < 0
  · exact line_none l hl h W
  · exact line_some l hl h W
end Go.Proofs.YtnbpninnanjemaaDoor.Xl
