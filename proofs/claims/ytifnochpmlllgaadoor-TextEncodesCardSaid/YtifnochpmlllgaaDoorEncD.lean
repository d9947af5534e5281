/-
  PROVED HERE: the contract of text.Wide. Conditions: as each theorem states.
-/
import Derived.Test.YtifnochpmlllgaaDoorEncC
import Derived.Test.YtifnochpmlllgaaDoorBit
namespace Go.Proofs.YtifnochpmlllgaaDoor.Enc
open Go.RowKit Go.Proofs.YtifnochpmlllgaaDoor.Chr

/-- A half's bytes, in an order. -/
def two (o h : Nat) : List UInt8 := if o = 1 then [UInt8.ofNat (h / 256), UInt8.ofNat (h % 256)] else [UInt8.ofNat (h % 256), UInt8.ofNat (h / 256)]
theorem two_len (o h : Nat) : (two o h).length = 2 := by unfold two; split <;> rfl
def wb (o r : Nat) : List UInt8 := if r < 65536 then two o r else two o (55296 + (r - 65536) / 1024) ++ two o (56320 + (r - 65536) % 1024)
theorem wb_len (o r : Nat) : (wb o r).length ≤ 4 := by unfold wb; split <;> simp [two_len]

/-- What put leaves: block b holds the slice, which holds the bytes l; block b - 1 the order. -/
def PutS (W : World) (b o : Nat) (l : List UInt8) (w : World) : Prop :=
  ∃ v, w.cell? ⟨b, 0, none⟩ = some v ∧ w.frozen? ⟨b, 0, none⟩ = false ∧ Own w (b + 1) 5 v (u8s l) ∧ (∀ a, a.block < b → w.cell? a = W.cell? a) ∧ W.cell? ⟨b - 1, 0, none⟩ = some (.int .i64 o) ∧ 1 ≤ b ∧ Below b W w ∧ b < w.heap.size
theorem PutS.same {W w : World} {b o : Nat} {l : List UInt8} (h : PutS W b o l w) {w' : World} (hb : Below w.heap.size w w') : PutS W b o l w' := by
  obtain ⟨v, h1, h2, h3, h4, h5, h6, h7, h8⟩ := h
  refine ⟨v, keepCell hb h1, keepFree hb h1 h2, h3.below hb, fun a ha => ?_, h5, h6, h7.trans (hb.mono (by omega)), by have := hb.size; omega⟩
  rw [hb.cell (by omega), h4 a ha]
theorem PutS.frame {W w : World} {o' : Obj} {o : Nat} {l : List UInt8} (h : PutS (W.alloc o') (W.heap.size + 1) o l w) : Below W.heap.size W w := by
  obtain ⟨_, _, _, _, _, _, _, h7, _⟩ := h
  exact ((Below.refl _ _).alloc (Nat.le_refl _) _).trans (h7.mono (by omega))
set_option maxRecDepth 100000 in
set_option maxHeartbeats 800000 in
theorem put_any (W : World) (b p o h : Nat) (hp : p + 1 = b) (l : List UInt8) (ho : o ≤ 1) (hh : h < 65536) (hl : l.length ≤ 1000000) (w : World) (hP : PutS W b o l w) :
    Calls Tryd.prog 81 #[.int .i64 h, .pointer (some ⟨p, 0, none⟩), .pointer (some ⟨b, 0, none⟩)] w fun e w' => e = .returned (.tuple #[]) ∧ PutS W b o (l ++ two o h) w' := by
  obtain rfl : p = b - 1 := by omega
  obtain ⟨v, h1, h2, h3, h4, h5, h6, h7, h8⟩ := hP
  have h0 : w.cell? ⟨b - 1, 0, none⟩ = some (.int .i64 o) := (h4 ⟨b - 1, 0, none⟩ (by show b - 1 < b; omega)).trans h5
  have e1 : ((h : Int) / 256) = ((UInt8.ofNat (h / 256)).toNat : Int) := by rw [UInt8.toNat_ofNat']; omega
  have e2 : (h : Int) % 256 = ((UInt8.ofNat (h % 256)).toNat : Int) := by rw [UInt8.toNat_ofNat']; omega
  have E1 := Lib.hid e1
  have E2 := Lib.hid e2
  have H3 := Lib.hid h3
  have H4 := Lib.hid h4
  have H5 := Lib.hid h5
  have H7 := Lib.hid h7
  clear e1 e2 h3 h4 h5 h7
  rcases (show o = 0 ∨ o = 1 by omega) with rfl | rfl
  · have HT : Hid (u8s l ++ [.int .u8 ((h : Int) % 256), .int .u8 ((h : Int) / 256)] = u8s (l ++ two 0 h)) := Lib.hid (by rw [E1.out, E2.out]; simp [u8s, two])
    go_enter Tryd.func81, Tryd.ntmps81
    go_wp2_with (at_builtin; refine own_append rfl _ _ 106 rfl (b + 1) 5 (.int .u8 0) 1 Tryd.underlying106 (by kernel_rfl) rfl _ _ rfl (H3.out.alloc _) _ 2 2 _ rfl rfl (World.news_of_block (heap_alloc_new _ _)) (by simp [Value.oneCell']) (by rw [u8s_len]; omega) (by rw [u8s_len]; omega) (le_alloc (by omega) _) ?_; intro v1 w1 ho1 hg1 hb1 hat1; have hb2 := below_append (Below.refl (b + 1) w) _ (by omega) hb1; have g1 := (hb2.cell (p := ⟨b, 0, none⟩) (Nat.lt_succ_self b)).trans h1; have g2 := (hb2.frozen (p := ⟨b, 0, none⟩) (Nat.lt_succ_self b)).trans h2; have hbH := Lib.hid hb2; clear hg1 hb1 hat1 hb2; obtain ⟨a1, c1, rfl⟩ := Own.len ho1)
    rw [HT.out] at ho1
    have hn : (u8s (l ++ two 0 h)).length = (u8s l).length + 2 := by simp [u8s_len, two_len]
    rw [hn] at ho1
    have hz := hbH.out.size
    go_end0
    refine ⟨rfl, _, World.cell?_setCell_same _ _ _ g1, ?_, ?_, fun a ha => ?_, H5.out, h6, ?_, by simp [World.setCell]; omega⟩
    · rw [frozen?_setCell]; exact g2
    · exact ho1.setBelow (a := ⟨b, 0, none⟩) (Nat.lt_succ_self b) _
    · rw [World.cell?_setCell_other _ _ _ _ (fun e => by rw [← e] at ha; exact Nat.lt_irrefl _ ha), hbH.out.cell (Nat.lt_succ_of_lt ha)]
      exact H4.out a ha
    · exact (H7.out.trans (hbH.out.mono (by omega))).setCell (p := ⟨b, 0, none⟩) (Nat.le_refl _) _
  · have HT : Hid (u8s l ++ [.int .u8 ((h : Int) / 256), .int .u8 ((h : Int) % 256)] = u8s (l ++ two 1 h)) := Lib.hid (by rw [E1.out, E2.out]; simp [u8s, two])
    go_enter Tryd.func81, Tryd.ntmps81
    go_wp2_with (at_builtin; refine own_append rfl _ _ 106 rfl (b + 1) 5 (.int .u8 0) 1 Tryd.underlying106 (by kernel_rfl) rfl _ _ rfl (H3.out.alloc _) _ 2 2 _ rfl rfl (World.news_of_block (heap_alloc_new _ _)) (by simp [Value.oneCell']) (by rw [u8s_len]; omega) (by rw [u8s_len]; omega) (le_alloc (by omega) _) ?_; intro v1 w1 ho1 hg1 hb1 hat1; have hb2 := below_append (Below.refl (b + 1) w) _ (by omega) hb1; have g1 := (hb2.cell (p := ⟨b, 0, none⟩) (Nat.lt_succ_self b)).trans h1; have g2 := (hb2.frozen (p := ⟨b, 0, none⟩) (Nat.lt_succ_self b)).trans h2; have hbH := Lib.hid hb2; clear hg1 hb1 hat1 hb2; obtain ⟨a1, c1, rfl⟩ := Own.len ho1)
    rw [HT.out] at ho1
    have hn : (u8s (l ++ two 1 h)).length = (u8s l).length + 2 := by simp [u8s_len, two_len]
    rw [hn] at ho1
    have hz := hbH.out.size
    go_end0
    refine ⟨rfl, _, World.cell?_setCell_same _ _ _ g1, ?_, ?_, fun a ha => ?_, H5.out, h6, ?_, by simp [World.setCell]; omega⟩
    · rw [frozen?_setCell]; exact g2
    · exact ho1.setBelow (a := ⟨b, 0, none⟩) (Nat.lt_succ_self b) _
    · rw [World.cell?_setCell_other _ _ _ _ (fun e => by rw [← e] at ha; exact Nat.lt_irrefl _ ha), hbH.out.cell (Nat.lt_succ_of_lt ha)]
      exact H4.out a ha
    · exact (H7.out.trans (hbH.out.mono (by omega))).setCell (p := ⟨b, 0, none⟩) (Nat.le_refl _) _
theorem wb_small (o r : Nat) (h : r < 65536) : wb o r = two o r := by unfold wb; rw [if_pos h]
theorem wb_great (o r : Nat) (h : ¬ r < 65536) (out : List UInt8) : (out ++ two o (55296 + (r - 65536) / 1024)) ++ two o (56320 + (r - 65536) % 1024) = out ++ wb o r := by
  unfold wb; rw [if_neg h, List.append_assoc]
theorem half_or_all : ∀ x : Fin 1024, bits .or .i64 55296 ((x.val : Nat) : Int) = ((55296 + x.val : Nat) : Int) := by decide +kernel
theorem half_or2_all : ∀ x : Fin 1024, bits .or .i64 56320 ((x.val : Nat) : Int) = ((56320 + x.val : Nat) : Int) := by decide +kernel
theorem half_hi (r : Nat) (h : 65536 ≤ r) (h2 : r ≤ 1114111) : bits .or .i64 55296 (((r : Int) - 65536) / 1024) = ((55296 + (r - 65536) / 1024 : Nat) : Int) := by
  rw [show ((r : Int) - 65536) / 1024 = (((r - 65536) / 1024 : Nat) : Int) by omega]
  exact half_or_all ⟨(r - 65536) / 1024, by omega⟩
theorem half_lo (r : Nat) (h : 65536 ≤ r) (h2 : r ≤ 1114111) : bits .or .i64 56320 (bits .and .i64 ((r : Int) - 65536) 1023) = ((56320 + (r - 65536) % 1024 : Nat) : Int) := by
  have h3 := i64_mask (r - 65536) 10 (by omega) (by decide)
  rw [show ((r : Int) - 65536) = ((r - 65536 : Nat) : Int) by omega, show (1023 : Int) = ((2 ^ 10 - 1 : Nat) : Int) from rfl, h3]
  exact half_or2_all ⟨(r - 65536) % 2 ^ 10, Nat.mod_lt _ (by decide)⟩

set_option maxRecDepth 100000 in
set_option maxHeartbeats 1000000 in
theorem wide_any (v : Value) (l : List Int) (o : Nat) (ho : o ≤ 1) (W : World) (hi : Ints W v l) (hl : l.length ≤ 1000) (hw : ∀ x ∈ l, -9223372036854775808 ≤ x ∧ x ≤ 9223372036854775807) :
    Calls Tryd.prog 36 #[v, .int .i64 o] W (RPost (er (wb o) l 0 []) W) := by
  obtain ⟨a, cap, rfl, hc⟩ := hi
  have hcH := Lib.hid hc
  have hwH := Lib.hid hw
  clear hc hw
  have hZ : Hid (er (wb o) (l.drop 0) 0 [] = er (wb o) l 0 []) := Lib.hid rfl
  generalize er (wb o) l 0 [] = Z at *
  have hmf : ∀ (fn : Fn) (first cap : Array Value) (w : World), (Instr.makeFunc fn first cap).run Tryd.prog w = .ok (.func fn first cap) w := fun _ _ _ _ => rfl
  have hP0 : Hid (PutS (W.alloc (.cells #[.int .i64 (o : Int)] 3)) (W.heap.size + 1) o [] ((W.alloc (.cells #[.int .i64 (o : Int)] 3)).alloc (.cells #[.slice none 0 0] 106))) := by
    refine Lib.hid ⟨.slice none 0 0, ?_, ?_, own_nil _ _ _, fun a ha => ?_, ?_, by omega, (Below.refl _ _).alloc (by simp) _, by simp⟩
    · simp
    · simp
    · exact World.cell?_alloc_lt _ _ _ (by simpa using ha)
    · exact new_cell W _ _
  rcases (show o = 0 ∨ o = 1 by omega) with rfl | rfl
  · go_enter Tryd.func36, Tryd.ntmps36
    go_wp2_with fail
    go_loopw [20] (fun i wr => ∃ (k : Nat) (out : List UInt8), k ≤ l.length ∧ i = .int .i64 k ∧ Hid (er (wb 0) (l.drop k) k out = Z) ∧ Hid (out.length ≤ 4 * k) ∧ Hid (PutS (W.alloc (.cells #[.int .i64 ((0 : Nat) : Int)] 3)) (W.heap.size + 1) 0 out wr)) (fun i _ => l.length - (intOf i).toNat)
    case atStart => exact ⟨0, [], Nat.zero_le _, rfl, hZ, Lib.hid (Nat.le_refl _), hP0⟩
    case round =>
      obtain ⟨k, out, hk, rfl, hu, hol, hP⟩ := hrel
      have hBH := Lib.hid hP.out.frame
      clear hZ hP0
      by_cases hlt : k < l.length
      · obtain ⟨ad, rfl, hcell0⟩ := hcH.out k hlt
        have hcell := (hBH.out.cell (p := ad.add k) (World.block_lt_of_cell? W _ hcell0)).trans hcell0
        have hx := hwH.out l[k] (List.getElem_mem hlt)
        have i1 : (0 : Int) ≤ (k : Int) := by omega
        have i2 : (k : Int) < (l.length : Int) := by omega
        have hol2 : out.length ≤ 4000 := by have := hol.out; omega
        by_cases hs : sgn l[k]
        · have hn := sgn_nat _ hs
          have hu2 := Lib.hid ((er_go (wb 0) l k out hlt hs).symm.trans hu.out)
          obtain ⟨r, hr⟩ := Int.eq_ofNat_of_zero_le hn.1
          rw [hr] at hcell hs hu2 hn
          rw [Int.toNat_natCast] at hu2
          have hlen := Lib.hid (wb_len 0 r)
          clear hcell0 hr hx
          by_cases hr6 : r < 65536
          · have e6 := Lib.hid (wb_small 0 r hr6)
            have t6 : decide ((r : Int) < 65536) = true := decide_eq_true (by omega)
            go_wp2_with fail
            refine (is_yes _ hs _).mono ?_; rintro e w' ⟨rfl, rfl⟩
            go_wp2_with fail
            refine (put_any _ _ _ _ r rfl out (by omega) hr6 (by omega) _ hP.out).mono ?_; rintro e w1 ⟨rfl, hP1⟩
            have hP1H := Lib.hid hP1
            clear hP1
            go_wp2_with fail
            go_roundw
            case rel => (repeat apply Exists.intro); exact ⟨⟨k + 1, _, by omega, by go_num, by rw [← e6.out]; exact hu2, Lib.hid (by have := hol.out; simp [two_len]; omega), hP1H⟩, rfl⟩
            case measure => simp [intOf]; omega
          · have e6 := Lib.hid (wb_great 0 r hr6 out)
            have t6 : decide ((r : Int) < 65536) = false := decide_eq_false (by omega)
            have hh := Lib.hid (half_hi r (by omega) (by omega))
            have hlo := Lib.hid (half_lo r (by omega) (by omega))
            go_wp2_with fail
            refine (is_yes _ hs _).mono ?_; rintro e w' ⟨rfl, rfl⟩
            go_wp2_with fail
            rw [hh.out]
            refine (put_any _ _ _ _ _ rfl out (by omega) (by omega) (by omega) _ hP.out).mono ?_; rintro e w1 ⟨rfl, hP1⟩
            have hP1H := Lib.hid hP1
            clear hP1
            go_wp2_with fail
            rw [hlo.out]
            refine (put_any _ _ _ _ _ rfl _ (by omega) (by omega) (by simp [two_len]; omega) _ hP1H.out).mono ?_; rintro e w2 ⟨rfl, hP2⟩
            rw [e6.out] at hP2
            have hP2H := Lib.hid hP2
            clear hP2
            go_wp2_with fail
            go_roundw
            case rel => (repeat apply Exists.intro); exact ⟨⟨k + 1, _, by omega, by go_num, hu2, Lib.hid (by have := hol.out; have := hlen.out; simp; omega), hP2H⟩, rfl⟩
            case measure => simp [intOf]; omega
        · have hu2 := Lib.hid ((er_bad (wb 0) l k out hlt hs).symm.trans hu.out)
          have hsH := Lib.hid hs
          clear hs hcell0
          generalize l[k] = r at *
          go_wp2_with fail
          refine (is_no _ hsH.out _).mono ?_; rintro e w' ⟨rfl, rfl⟩
          go_wp2_with fail
          go_ret2
          rw [← hu2.out]
          exact ⟨_, rfl, .inr (.inr ⟨wr.heap.size, 0, rfl, by simp [Res.err], by simp [Res.at_]⟩), hBH.out.alloc hBH.out.size _⟩
      · have hu2 := Lib.hid ((er_end (wb 0) l k out (by omega)).symm.trans hu.out)
        obtain ⟨v, h1, h2, h3, h4, h5, h6, h7, h8⟩ := hP.out
        have hstr := own_string (P := Tryd.prog) (T := 106) (S := 9) h3 Tryd.underlying106 Tryd.underlying5 Tryd.underlying9
        clear h2 h3 h4 h5 h6 h7 h8
        go_wp2_with fail
        go_ret2
        rw [← hu2.out]
        exact ⟨_, rfl, .inl ⟨rfl, rfl, rfl⟩, hBH.out⟩
  · go_enter Tryd.func36, Tryd.ntmps36
    go_wp2_with fail
    go_loopw [20] (fun i wr => ∃ (k : Nat) (out : List UInt8), k ≤ l.length ∧ i = .int .i64 k ∧ Hid (er (wb 1) (l.drop k) k out = Z) ∧ Hid (out.length ≤ 4 * k) ∧ Hid (PutS (W.alloc (.cells #[.int .i64 ((1 : Nat) : Int)] 3)) (W.heap.size + 1) 1 out wr)) (fun i _ => l.length - (intOf i).toNat)
    case atStart => exact ⟨0, [], Nat.zero_le _, rfl, hZ, Lib.hid (Nat.le_refl _), hP0⟩
    case round =>
      obtain ⟨k, out, hk, rfl, hu, hol, hP⟩ := hrel
      have hBH := Lib.hid hP.out.frame
      clear hZ hP0
      by_cases hlt : k < l.length
      · obtain ⟨ad, rfl, hcell0⟩ := hcH.out k hlt
        have hcell := (hBH.out.cell (p := ad.add k) (World.block_lt_of_cell? W _ hcell0)).trans hcell0
        have hx := hwH.out l[k] (List.getElem_mem hlt)
        have i1 : (0 : Int) ≤ (k : Int) := by omega
        have i2 : (k : Int) < (l.length : Int) := by omega
        have hol2 : out.length ≤ 4000 := by have := hol.out; omega
        by_cases hs : sgn l[k]
        · have hn := sgn_nat _ hs
          have hu2 := Lib.hid ((er_go (wb 1) l k out hlt hs).symm.trans hu.out)
          obtain ⟨r, hr⟩ := Int.eq_ofNat_of_zero_le hn.1
          rw [hr] at hcell hs hu2 hn
          rw [Int.toNat_natCast] at hu2
          have hlen := Lib.hid (wb_len 1 r)
          clear hcell0 hr hx
          by_cases hr6 : r < 65536
          · have e6 := Lib.hid (wb_small 1 r hr6)
            have t6 : decide ((r : Int) < 65536) = true := decide_eq_true (by omega)
            go_wp2_with fail
            refine (is_yes _ hs _).mono ?_; rintro e w' ⟨rfl, rfl⟩
            go_wp2_with fail
            refine (put_any _ _ _ _ r rfl out (by omega) hr6 (by omega) _ hP.out).mono ?_; rintro e w1 ⟨rfl, hP1⟩
            have hP1H := Lib.hid hP1
            clear hP1
            go_wp2_with fail
            go_roundw
            case rel => (repeat apply Exists.intro); exact ⟨⟨k + 1, _, by omega, by go_num, by rw [← e6.out]; exact hu2, Lib.hid (by have := hol.out; simp [two_len]; omega), hP1H⟩, rfl⟩
            case measure => simp [intOf]; omega
          · have e6 := Lib.hid (wb_great 1 r hr6 out)
            have t6 : decide ((r : Int) < 65536) = false := decide_eq_false (by omega)
            have hh := Lib.hid (half_hi r (by omega) (by omega))
            have hlo := Lib.hid (half_lo r (by omega) (by omega))
            go_wp2_with fail
            refine (is_yes _ hs _).mono ?_; rintro e w' ⟨rfl, rfl⟩
            go_wp2_with fail
            rw [hh.out]
            refine (put_any _ _ _ _ _ rfl out (by omega) (by omega) (by omega) _ hP.out).mono ?_; rintro e w1 ⟨rfl, hP1⟩
            have hP1H := Lib.hid hP1
            clear hP1
            go_wp2_with fail
            rw [hlo.out]
            refine (put_any _ _ _ _ _ rfl _ (by omega) (by omega) (by simp [two_len]; omega) _ hP1H.out).mono ?_; rintro e w2 ⟨rfl, hP2⟩
            rw [e6.out] at hP2
            have hP2H := Lib.hid hP2
            clear hP2
            go_wp2_with fail
            go_roundw
            case rel => (repeat apply Exists.intro); exact ⟨⟨k + 1, _, by omega, by go_num, hu2, Lib.hid (by have := hol.out; have := hlen.out; simp; omega), hP2H⟩, rfl⟩
            case measure => simp [intOf]; omega
        · have hu2 := Lib.hid ((er_bad (wb 1) l k out hlt hs).symm.trans hu.out)
          have hsH := Lib.hid hs
          clear hs hcell0
          generalize l[k] = r at *
          go_wp2_with fail
          refine (is_no _ hsH.out _).mono ?_; rintro e w' ⟨rfl, rfl⟩
          go_wp2_with fail
          go_ret2
          rw [← hu2.out]
          exact ⟨_, rfl, .inr (.inr ⟨wr.heap.size, 0, rfl, by simp [Res.err], by simp [Res.at_]⟩), hBH.out.alloc hBH.out.size _⟩
      · have hu2 := Lib.hid ((er_end (wb 1) l k out (by omega)).symm.trans hu.out)
        obtain ⟨v, h1, h2, h3, h4, h5, h6, h7, h8⟩ := hP.out
        have hstr := own_string (P := Tryd.prog) (T := 106) (S := 9) h3 Tryd.underlying106 Tryd.underlying5 Tryd.underlying9
        clear h2 h3 h4 h5 h6 h7 h8
        go_wp2_with fail
        go_ret2
        rw [← hu2.out]
        exact ⟨_, rfl, .inl ⟨rfl, rfl, rfl⟩, hBH.out⟩
end Go.Proofs.YtifnochpmlllgaaDoor.Enc
