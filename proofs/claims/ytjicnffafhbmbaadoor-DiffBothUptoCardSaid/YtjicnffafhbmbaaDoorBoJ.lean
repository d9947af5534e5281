/-
  PROVED HERE: the contract of the document's DiffBoth. Conditions: as each theorem states.
-/
import Derived.Test.YtjicnffafhbmbaaDoorBoI
import Derived.Test.YtjicnffafhbmbaaDoorBoE
import Derived.Test.YtjicnffafhbmbaaDoorMyQ
import Derived.Lib.SlicesS
namespace Go.Proofs.YtjicnffafhbmbaaDoor.Bo
open Go.RowKit Go.Proofs.YtjicnffafhbmbaaDoor.My
def OuR (P Q : List Ch) (w0 : World) (G : Nat) (v5 iv : Value) (wr : World) : Prop := ∃ (i : Nat) (v : Value), i ≤ Q.length ∧ iv = .int .i64 i ∧ Hid (Dm w0 G v5 Q v (grown P Q i) wr) ∧ Hid (NoC P Q i)
def InR (P : List Ch) (q : Ch) (w6 : World) (hv jv : Value) (wy : World) : Prop := ∃ (j : Nat) (b : Bool), j ≤ P.length ∧ jv = .int .i64 j ∧ hv = .bool b ∧ Hid (b = decide (q ∈ P.take j)) ∧ Hid (NoP P q j) ∧ Hid (Below w6.heap.size w6 wy)
def FnR (M2 : List Ch) (old : ByteArray) (w8 : World) (sv kv : Value) (wr : World) : Prop := ∃ k : Nat, k ≤ M2.length ∧ kv = .int .i64 k ∧ sv = .string ((M2.take k).foldl put1 old) ∧ Hid (Below w8.heap.size w8 wr)
theorem take_next {M2 : List Ch} {old : ByteArray} {k : Nat} (hk : k < M2.length) : (M2.take (k + 1)).foldl put1 old = put1 ((M2.take k).foldl put1 old) M2[k] := by
  rw [List.take_succ_eq_append_getElem hk, List.foldl_append]; rfl
theorem room_at {old : ByteArray} {M M2 : List Ch} {k : Nat} (h : Sep old.size M) (e : M2 = M.reverse) (hk : k < M2.length) : M2[k].fr ≤ M2[k].to ∧ M2[k].to ≤ ((M2.take k).foldl put1 old).size := by
  refine back_room old M (M2.take k) (M2.drop (k + 1)) M2[k] h ?_
  rw [← List.drop_eq_getElem_cons hk, List.take_append_drop, e]
def DoB (old a b : ByteArray) (W : World) (e : Ending) (w' : World) : Prop := e = .returned (.tuple (match res old ⟨#[]⟩ 0 (merge (changes old a) (changes old b)) with | some s => #[.string s, .bool true, .int .i64 0] | none => #[.string a, .bool false, .int .i64 0])) ∧ Below W.heap.size W w'
set_option maxRecDepth 100000 in
set_option maxHeartbeats 4000000 in
theorem docboth_any (old a b : ByteArray) (ha : old.size + a.size ≤ 200) (hb : old.size + b.size ≤ 200) (W : World) :
    Calls Tryd.prog 4 #[.string old, .string a, .string b] W (DoB old a b W) := by
  have E1 := Lib.hid (fun w => docedits_any old a (by omega) w)
  have E2 := Lib.hid (fun w => docedits_any old b (by omega) w)
  have C1 := Lib.hid (fun v w h => swaps_any v (edits old a) w h (edits_ok old a).1 (by have := (edits_ok old a).2.1; omega) (by have := (edits_ok old a).2.2.1; omega) (by have := (edits_ok old a).2.2.2; omega))
  have C2 := Lib.hid (fun v w h => swaps_any v (edits old b) w h (edits_ok old b).1 (by have := (edits_ok old b).2.1; omega) (by have := (edits_ok old b).2.2.1; omega) (by have := (edits_ok old b).2.2.2; omega))
  have K1 := Lib.hid (changes_ok old a)
  have K2 := Lib.hid (changes_ok old b)
  have L1 := changes_len old a
  have L2 := changes_len old b
  have MK := Lib.hid (merge_ok _ (changes old a) (changes old b) rfl (changes_ok old a).1 (changes_ok old b).1)
  unfold DoB
  rw [show chg (edits old a) = changes old a from rfl] at C1
  rw [show chg (edits old b) = changes old b from rfl] at C2
  generalize changes old a = P at *
  generalize changes old b = Q at *
  generalize hR : res old ⟨#[]⟩ 0 (merge P Q) = R
  have HR := Lib.hid hR
  clear hR
  go_enter Tryd.func4, Tryd.ntmps4
  go_wp2_with fail
  refine (E1.out _).mono ?_; rintro e w1 ⟨v1, rfl, g1, b1⟩
  have B1 := Lib.hid b1
  have G1 := Lib.hid (show Eds w1 v1 (edits old a) from g1)
  clear b1 g1
  go_wp2_with fail
  refine (E2.out _).mono ?_; rintro e w2 ⟨v2, rfl, g2, b2⟩
  have B2 := Lib.hid (B1.out.trans (b2.mono B1.out.size))
  have G3 := Lib.hid (G1.out.below b2)
  have G2 := Lib.hid (show Eds w2 v2 (edits old b) from g2)
  clear b2 g2 G1
  go_wp2_with fail
  refine (C1.out _ _ G3.out).mono ?_; rintro e w3 ⟨v3, rfl, g3, b3⟩
  have O3 := Lib.hid g3
  have B3 := Lib.hid b3
  clear g3 b3
  obtain ⟨a3, c3, rfl⟩ := O3.out.len
  have HB2 := B3.out.size
  go_upto_region 6 with fail
  obtain ⟨w4, hw4⟩ : ∃ w4, w4 = w3.alloc (.cells #[.slice a3 P.length c3] 34) := ⟨_, rfl⟩
  have O4 := Lib.hid (show OwnC 37 w4 w2.heap.size (.slice a3 P.length c3) P from by rw [hw4]; exact O3.out.alloc _)
  have B4 : Hid (Below w2.heap.size w2 w4) := Lib.hid (by rw [hw4]; exact B3.out.alloc HB2 _)
  have x0 := Lib.hid (show w4.cell? ⟨w3.heap.size, 0, none⟩ = some (.slice a3 P.length c3) by rw [hw4]; simp [go_sem])
  have xf := Lib.hid (show w4.frozen? ⟨w3.heap.size, 0, none⟩ = false by rw [hw4]; simp [go_sem])
  have xl := Lib.hid (show w3.heap.size < w4.heap.size by rw [hw4]; simp)
  have xn := Lib.hid (show (Value.slice a3 P.length c3).ownBlock ≠ some w3.heap.size from fun e => Nat.lt_irrefl _ (World.ownsRow.lt O3.out _ e).2)
  have xo := Lib.hid (show ∀ k, (Value.slice a3 P.length c3).ownBlock = some k → k < w4.heap.size from fun k e => (World.ownsRow.lt O4.out _ e).2)
  have G4 := Lib.hid ((G2.out.below (B3.out.mono (Nat.le_refl _))).below ((Below.refl w3.heap.size w3).alloc (Nat.le_refl _) (.cells #[.slice a3 P.length c3] 34)))
  rw [← hw4] at G4 ⊢
  clear hw4 O3 B3
  generalize w3.heap.size = G at *
  go_wp2_with fail
  refine (C2.out _ _ G4.out).mono ?_; rintro e w5 ⟨v5, rfl, g5, b5⟩
  have hD := show Dm w2 G v5 Q (.slice a3 P.length c3) (grown P Q 0) w5 from by
    have h0 : grown P Q 0 = P := by unfold grown more; simp
    rw [h0]
    exact ⟨O4.out.below b5, (b5.cell (p := ⟨G, 0, none⟩) xl.out).trans x0.out, keepFree b5 x0.out xf.out, xn.out, Nat.lt_of_lt_of_le xl.out b5.size, HB2, g5.show_, fun k hk => by
      have h1 := World.ownsRow.lt g5 k hk
      refine ⟨fun e => by have := xl.out; omega, fun e => by have := xo.out k e; omega, h1.2⟩, B4.out.trans (b5.mono B4.out.size)⟩
  have HD := Lib.hid hD
  obtain ⟨a5, c5, rfl⟩ := g5.len
  clear hD g5 b5 O4 B4 x0 xf xl xn xo G4 C2 HB2 G2
  go_wp2_with fail
  go_loopw [44] (fun iv wr => OuR P Q w2 G (.slice a5 Q.length c5) iv wr) (fun iv _ => Q.length - (intOf iv).toNat)
  case atStart => exact ⟨0, _, Nat.zero_le _, rfl, HD, Lib.hid (noc0 P Q)⟩
  case round =>
    clear HD
    obtain ⟨i, v, hi, rfl, hD, hC⟩ := hrel
    by_cases hlt : i < Q.length
    · obtain ⟨ad, rfl, d0, d1, d2⟩ := hD.out.yl.at_ i hlt
      have i1 : (0 : Int) ≤ (i : Int) := by omega
      have i2 : (i : Int) < (Q.length : Int) := by omega
      have hqm := Lib.hid (List.getElem_mem hlt)
      have HC2 := Lib.hid (fun h => noc_next hlt hC.out h)
      have HG1 := Lib.hid (fun h => grown_has (P := P) hlt h)
      have HG2 := Lib.hid (fun h => grown_not (P := P) hlt h)
      have hgl := Lib.hid (grown_len P Q i)
      generalize Q[i] = q at *
      go_upto_region 10 with fail
      obtain ⟨wa, hwa⟩ : ∃ wa, wa = wr.alloc (.cells #[.int .i64 (q.fr : Nat), .int .i64 (q.to : Nat), .string q.text] 37) := ⟨_, rfl⟩
      have hDa := Lib.hid (show Dm w2 G _ Q v (grown P Q i) wa from by rw [hwa]; exact hD.out.below ((Below.refl _ _).alloc (Nat.le_refl _) _))
      have q0 := Lib.hid (show wa.cell? ⟨wr.heap.size, 0, none⟩ = some (.int .i64 (q.fr : Nat)) by rw [hwa]; simp [go_sem])
      have q1 := Lib.hid (show wa.cell? ⟨wr.heap.size, 1, none⟩ = some (.int .i64 (q.to : Nat)) by rw [hwa]; simp [go_sem])
      have q2 := Lib.hid (show wa.cell? ⟨wr.heap.size, 2, none⟩ = some (.string q.text) by rw [hwa]; simp [go_sem])
      have ql := Lib.hid (show wr.heap.size < wa.heap.size by rw [hwa]; simp)
      rw [← hwa]
      clear hwa hD d0 d1 d2
      generalize wr.heap.size = H at *
      have S6 := Lib.hid (C1.out v1 wa (G3.out.below (hDa.out.bl)))
      go_wp2_with fail
      refine (S6.out).mono ?_; rintro e w6 ⟨v6, rfl, g6, b6⟩
      have P6 := Lib.hid g6.show_
      have D6 := Lib.hid (hDa.out.below b6)
      have r0 := Lib.hid (keepCell b6 q0.out)
      have r1 := Lib.hid (keepCell b6 q1.out)
      have r2 := Lib.hid (keepCell b6 q2.out)
      have rl := Lib.hid (Nat.lt_of_lt_of_le ql.out b6.size)
      obtain ⟨a6, c6, rfl⟩ := g6.len
      clear g6 b6 hDa q0 q1 q2 ql S6
      go_wp2_with fail
      go_loopw [16, 51] (fun hv jv wy => InR P q w6 hv jv wy) (fun _ jv _ => P.length - (intOf jv).toNat)
      case atStart => exact ⟨0, false, Nat.zero_le _, rfl, rfl, Lib.hid (by simp), Lib.hid (nop0 P q), Lib.hid (Below.refl _ _)⟩
      case round =>
        obtain ⟨j, bb, hj, rfl, rfl, hb, hN, hBy⟩ := hrel
        by_cases hjl : j < P.length
        · obtain ⟨ap, rfl, e0, e1, e2⟩ := P6.out.at_ j hjl
          have e0 := keepCell hBy.out e0
          have e1 := keepCell hBy.out e1
          have e2 := keepCell hBy.out e2
          have s0 := keepCell hBy.out r0.out
          have s1 := keepCell hBy.out r1.out
          have s2 := keepCell hBy.out r2.out
          have j1 : (0 : Int) ≤ (j : Int) := by omega
          have j2 : (j : Int) < (P.length : Int) := by omega
          have hpm := Lib.hid (List.getElem_mem hjl)
          have HN2 := Lib.hid (fun h => nop_next hjl hN.out h)
          have HH2 := Lib.hid (has_next (q := q) hjl)
          have HBz : ∀ o, Hid (Below w6.heap.size w6 (wr.alloc o)) := fun o => Lib.hid (hBy.out.alloc hBy.out.size o)
          have HBzH := Lib.hid HBz
          have s0 := (keepCell ((Below.refl wr.heap.size wr).alloc (Nat.le_refl _) (.cells #[.int .i64 (P[j].fr : Nat), .int .i64 (P[j].to : Nat), .string P[j].text] 37)) s0)
          have s1 := (keepCell ((Below.refl wr.heap.size wr).alloc (Nat.le_refl _) (.cells #[.int .i64 (P[j].fr : Nat), .int .i64 (P[j].to : Nat), .string P[j].text] 37)) s1)
          have s2 := (keepCell ((Below.refl wr.heap.size wr).alloc (Nat.le_refl _) (.cells #[.int .i64 (P[j].fr : Nat), .int .i64 (P[j].to : Nat), .string P[j].text] 37)) s2)
          clear HBz
          generalize P[j] = p at *
          go_upto_region 13 with fail
          obtain ⟨wz, hwz⟩ : ∃ wz, wz = wr.alloc (.cells #[.int .i64 (p.fr : Nat), .int .i64 (p.to : Nat), .string p.text] 37) := ⟨_, rfl⟩
          rw [← hwz] at s0 s1 s2 ⊢
          have HB2 : Hid (Below w6.heap.size w6 wz) := by rw [hwz]; exact HBzH.out _
          have z0 : wz.cell? ⟨wr.heap.size, 0, none⟩ = some (.int .i64 (p.fr : Nat)) := by rw [hwz]; simp [go_sem]
          have z1 : wz.cell? ⟨wr.heap.size, 1, none⟩ = some (.int .i64 (p.to : Nat)) := by rw [hwz]; simp [go_sem]
          have z2 : wz.cell? ⟨wr.heap.size, 2, none⟩ = some (.string p.text) := by rw [hwz]; simp [go_sem]
          clear hwz HBzH hN e0 e1 e2
          generalize wr.heap.size = J at *
          by_cases e : p = q
          · subst e
            have HHN : Hid (true = decide (p ∈ P.take (j + 1))) := Lib.hid (by rw [HH2.out]; simp)
            have HNN := Lib.hid (HN2.out (fun h => h.1 rfl))
            clear HN2 HH2 hb
            go_wp2_with fail
            go_roundw
            case rel => first | exact ⟨j + 1, true, by omega, by go_num, rfl, HHN, HNN, HB2⟩ | ((repeat apply Exists.intro); exact ⟨⟨j + 1, true, by omega, by go_num, rfl, HHN, HNN, HB2⟩, rfl⟩)
            case measure => simp [intOf]; omega
          · have HHN : Hid (bb = decide (q ∈ P.take (j + 1))) := Lib.hid (by rw [HH2.out, hb.out]; simp [e])
            have HE := Lib.hid e
            have ee : p.fr = q.fr → p.to = q.to → p.text ≠ q.text := fun h1 h2 h3 => e (by cases p; cases q; simp only at h1 h2 h3; subst h1 h2 h3; rfl)
            clear e hb HH2
            go_cut [57] (fun s wx => s = .bool false ∧ wx = wz)
            case first =>
              by_cases h1 : p.fr = q.fr
              · by_cases h2 : p.to = q.to
                · have h3 := ee h1 h2
                  have t1 : ((p.fr : Int) == (q.fr : Int)) = true := by rw [beq_iff_eq, h1]
                  have t2 : ((p.to : Int) == (q.to : Int)) = true := by rw [beq_iff_eq, h2]
                  have t3 : (p.text.toList == q.text.toList) = false := (Go.Lib.bytes_beq_false_iff _ _).2 h3
                  clear ee h1 h2
                  go_wp2_with fail
                  go_meet
                  exact ⟨rfl, rfl⟩
                · have t1 : ((p.fr : Int) == (q.fr : Int)) = true := by rw [beq_iff_eq, h1]
                  have t2 : ((p.to : Int) == (q.to : Int)) = false := by rw [beq_eq_false_iff_ne]; omega
                  clear ee h1 h2
                  go_wp2_with fail
                  go_meet
                  exact ⟨rfl, rfl⟩
              · have t1 : ((p.fr : Int) == (q.fr : Int)) = false := by rw [beq_eq_false_iff_ne]; omega
                clear ee h1
                go_wp2_with fail
                go_meet
                exact ⟨rfl, rfl⟩
            case rest =>
              obtain ⟨rfl, rfl⟩ := hcut
              by_cases t : touch p q
              · obtain rfl : R = none := by
                  rcases MK.out with h | h
                  · rw [← HR.out, h.2]; rfl
                  · exact absurd ⟨q, hqm.out, p, hpm.out, HE.out, t⟩ h.1
                obtain ⟨t1, t2⟩ := t
                have t3 : (p.fr : Int) ≤ (q.to : Int) := by omega
                have t4 : (q.fr : Int) ≤ (p.to : Int) := by omega
                have t5 : decide (p.fr ≤ q.to) = true := decide_eq_true t1
                have t6 : decide (q.fr ≤ p.to) = true := decide_eq_true t2
                clear MK HR
                go_wp2_with fail
                go_ret3
                exact ⟨rfl, B2.out.trans ((D6.out.bl.trans (HB2.out.mono D6.out.bl.size)).mono B2.out.size)⟩
              · have HNN := Lib.hid (HN2.out (fun h => t h.2))
                by_cases t1 : p.fr ≤ q.to
                · have t2 : ¬ q.fr ≤ p.to := fun h => t ⟨t1, h⟩
                  have t3 : (p.fr : Int) ≤ (q.to : Int) := by omega
                  have t4 : ¬ (q.fr : Int) ≤ (p.to : Int) := by omega
                  have t5 : decide (p.fr ≤ q.to) = true := decide_eq_true t1
                  have t6 : decide (q.fr ≤ p.to) = false := decide_eq_false t2
                  clear HN2 t
                  go_wp2_with fail
                  go_roundw
                  case rel => first | exact ⟨j + 1, bb, by omega, by go_num, rfl, HHN, HNN, HB2⟩ | ((repeat apply Exists.intro); exact ⟨⟨j + 1, bb, by omega, by go_num, rfl, HHN, HNN, HB2⟩, rfl⟩)
                  case measure => simp [intOf]; omega
                · have t3 : ¬ (p.fr : Int) ≤ (q.to : Int) := by omega
                  have t5 : decide (p.fr ≤ q.to) = false := decide_eq_false t1
                  clear HN2 t
                  go_wp2_with fail
                  go_roundw
                  case rel => first | exact ⟨j + 1, bb, by omega, by go_num, rfl, HHN, HNN, HB2⟩ | ((repeat apply Exists.intro); exact ⟨⟨j + 1, bb, by omega, by go_num, rfl, HHN, HNN, HB2⟩, rfl⟩)
                  case measure => simp [intOf]; omega
        · obtain rfl : j = P.length := by omega
          have HN2 := HC2.out (nop_all hN.out)
          have hbb : bb = decide (q ∈ P) := by have := hb.out; rw [List.take_length] at this; exact this
          have DX := Lib.hid (D6.out.below hBy.out)
          have HNN := Lib.hid HN2
          have s0 := keepCell hBy.out r0.out
          have s1 := keepCell hBy.out r1.out
          have s2 := keepCell hBy.out r2.out
          by_cases hq : q ∈ P
          · rw [decide_eq_true hq] at hbb
            subst hbb
            have DN : Hid (Dm w2 G (.slice (some ad) Q.length c5) Q v (grown P Q (i + 1)) wr) := Lib.hid (by rw [HG1.out hq]; exact DX.out)
            clear hb hN hjl HN2 hq
            go_wp2_with fail
            go_roundw
            case rel => first | exact ⟨i + 1, v, by omega, by go_num, DN, HNN⟩ | ((repeat apply Exists.intro); exact ⟨⟨i + 1, v, by omega, by go_num, DN, HNN⟩, rfl⟩)
            case measure => simp [intOf]; omega
          · rw [decide_eq_false hq] at hbb
            subst hbb
            have hgr := Lib.hid (HG2.out hq)
            have hlen : (grown P Q i).length + 1 ≤ 1000000 := by have := hgl.out; omega
            have x0 := DX.out.box
            clear hb hN hjl HN2 hq
            go_wp2_with (at_builtin; go_loud (refine ownC_append1 chT_swap rfl _ _ rfl w2.heap.size _ (grown P Q i) rfl (DX.out.own.alloc _) _ 1 q rfl (heap_new0 _ _) hlen (by have := DX.out.bl.size; first | exact this | (simp; omega)) ?_); intro v7 w7 ho1 hg1 hb1 hat1; obtain ⟨y0, f0, hD7⟩ := (DX.out.below ((Below.refl _ _).alloc (Nat.le_refl _) _)).app ho1 hg1 hb1 hat1; rw [← hgr.out] at hD7; obtain ⟨a7, c7, hv7⟩ := ho1.len; generalize (grown P Q i ++ [q]).length = n7 at hv7; subst hv7; have DN := Lib.hid hD7; clear ho1 hg1 hb1 hat1 hD7)
            go_roundw
            case rel => first | exact ⟨i + 1, _, by omega, by go_num, DN, HNN⟩ | ((repeat apply Exists.intro); exact ⟨⟨i + 1, _, by omega, by go_num, DN, HNN⟩, rfl⟩)
            case measure => simp [intOf]; omega
    · obtain rfl : i = Q.length := by omega
      rcases MK.out with hcl | ⟨-, M, hM, hg⟩
      · exact absurd hcl.1 (noc_all hC.out)
      have hL := grown_all P Q
      have hLn := grown_len P Q Q.length
      have HM := Lib.hid (show R = some (asm old 0 M) by rw [← HR.out, hM]; exact congrArg some ByteArray.empty_append)
      have HP := Lib.hid (show M.Perm (grown P Q Q.length) by rw [hL]; exact hg.perm)
      have HS := Lib.hid hg.sep
      have HT := Lib.hid (show ∀ c ∈ M, c.text.size ≤ 200 from fun c hc => by
        rcases List.mem_append.1 (hg.perm.mem_iff.1 hc) with h | h
        · have := K1.out.2 c h; omega
        · have := K2.out.2 c (List.mem_filter.1 h).1; omega)
      have hMl : M.length ≤ 400 := by have := HP.out.length_eq; omega
      obtain ⟨a8, c8, rfl⟩ := hD.out.own.len
      have x0 := hD.out.box
      have ST := Lib.hid (sort_all wr w2.heap.size G _ _ hD.out.own hD.out.bl.size x0 hD.out.lt hD.out.nb (by omega))
      clear MK hM hg hC hL hlt
      generalize grown P Q Q.length = L at *
      generalize hn8 : L.length = n8 at *
      go_wp2_with fail
      refine (ST.out).mono ?_; rintro e w8 ⟨rfl, M2, h1, h2, h3, h4, h5⟩
      have e2 := falls_one HS.out (h1.trans HP.out.symm) h2
      have E2H := Lib.hid e2
      have HBw := Lib.hid (hD.out.bl.trans h4)
      have C3 := Lib.hid h3
      have hl2 : M2.length = n8 := by rw [← hn8]; exact h1.length_eq
      have hM2l : M2.length ≤ 400 := by rw [e2, List.length_reverse]; exact hMl
      have HT2 := Lib.hid (show ∀ c ∈ M2, c.text.size ≤ 200 from fun c hc => HT.out c (by rw [e2] at hc; simpa using hc))
      have HRM := Lib.hid (show ∀ k (hk : k < M2.length), M2[k].fr ≤ M2[k].to ∧ M2[k].to ≤ ((M2.take k).foldl put1 old).size from fun k hk => room_at HS.out e2 hk)
      have HFR := Lib.hid (show ∀ c ∈ M2, c.fr ≤ c.to from fun c hc => (HS.out.2 c (by rw [e2] at hc; simpa using hc)).1)
      have HEND := Lib.hid (show M2.foldl put1 old = asm old 0 M by rw [e2]; exact asm_all old M HS.out)
      have x1 := h5
      subst hl2
      clear h1 h2 h3 h4 h5 e2 E2H ST hD x0 hn8 HP HS HT hLn hMl
      go_wp2_with fail
      go_loopw [0, 85] (fun sv kv wr => FnR M2 old w8 sv kv wr) (fun _ kv _ => M2.length - (intOf kv).toNat)
      case atStart => exact ⟨0, Nat.zero_le _, rfl, rfl, Lib.hid (Below.refl _ _)⟩
      case round =>
        obtain ⟨k, hk, rfl, rfl, hB⟩ := hrel
        by_cases hkl : k < M2.length
        · obtain ⟨ad, rfl, d0, d1, d2⟩ := C3.out.at_ k hkl
          have d0 := keepCell hB.out d0
          have d1 := keepCell hB.out d1
          have d2 := keepCell hB.out d2
          have hr := HRM.out k hkl
          have hcs := back_size 200 (M2.take k) old (fun c hc => ⟨HFR.out c (List.mem_of_mem_take hc), HT2.out c (List.mem_of_mem_take hc)⟩)
          rw [List.length_take] at hcs
          have ht := HT2.out _ (List.getElem_mem hkl)
          have HN := Lib.hid (take_next (old := old) hkl)
          have HBN : ∀ o, Hid (Below w8.heap.size w8 (wr.alloc o)) := fun o => Lib.hid (hB.out.alloc hB.out.size o)
          have HBNH := Lib.hid HBN
          generalize (M2.take k).foldl put1 old = cur at *
          generalize M2[k] = c at *
          obtain ⟨hr1, hr2⟩ := hr
          have i1 : (0 : Int) ≤ (k : Int) := by omega
          have i2 : (k : Int) < (M2.length : Int) := by omega
          obtain ⟨X1, hX1⟩ : ∃ X, cur.extract 0 c.fr = X := ⟨_, rfl⟩
          obtain ⟨X2, hX2⟩ : ∃ X, cur.extract c.to cur.size = X := ⟨_, rfl⟩
          have s1 : X1.size ≤ 200000 := by rw [← hX1, ByteArray.size_extract]; omega
          have s2 : X2.size ≤ 200000 := by rw [← hX2, ByteArray.size_extract]; omega
          have t1 : (c.fr : Int) ≤ (cur.size : Int) := by omega
          have t2 : (c.to : Int) ≤ (cur.size : Int) := by omega
          have t3 : ¬ (9223372036854775807 < X1.size + c.text.size) := by omega
          have t4 : ¬ (9223372036854775807 < (X1 ++ c.text).size + X2.size) := by rw [ByteArray.size_append]; omega
          have t5 : ¬ (9223372036854775807 < X1.size + c.text.size + X2.size) := by omega
          have HPN : Hid ((M2.take (k + 1)).foldl put1 old = (X1 ++ c.text) ++ X2) := Lib.hid (by rw [HN.out, ← hX1, ← hX2]; rfl)
          clear HBN hcs ht hr1 hr2 HN
          go_upto_region 25 with fail
          go_quiet (fail)
          have HB3 := Lib.hid (below_drewN (HBNH.out (.cells #[.int .i64 (c.fr : Nat), .int .i64 (c.to : Nat), .string c.text] 37)).out nq)
          go_wp2_with fail
          go_roundw
          case rel => first | exact ⟨k + 1, by omega, by go_num, by rw [HPN.out], HB3⟩ | ((repeat apply Exists.intro); exact ⟨⟨k + 1, by omega, by go_num, by rw [HPN.out], HB3⟩, rfl⟩)
          case measure => simp [intOf]; omega
        · obtain rfl : k = M2.length := by omega
          have HE : Hid ((M2.take M2.length).foldl put1 old = asm old 0 M) := Lib.hid (by rw [List.take_length]; exact HEND.out)
          rw [HE.out]
          obtain rfl := HM.out
          go_wp2_with fail
          go_ret3
          exact ⟨rfl, B2.out.trans ((HBw.out.trans (hB.out.mono HBw.out.size)).mono B2.out.size)⟩
end Go.Proofs.YtjicnffafhbmbaaDoor.Bo
