/-
  PROVED HERE: the law RegsKeep returns true. Conditions: as each theorem states.
-/
import Derived.Test.YthkigjhbcempbaaDoorRgG
import Derived.Test.YthkigjhbcempbaaDoorRop
import Derived.Deep.DeepCutAuto
import Derived.Deep.CutBlock
import Derived.Deep.RegionWith
import Derived.Deep.RegionHeld3
namespace Go.Proofs.YthkigjhbcempbaaDoor.Rg
open Go.RowKit
theorem KR0.below {W w w1 : World} {g r : Nat} (h : KR0 W w g r) (hb : Below w.heap.size w w1) : KR0 W w1 g r := by
  obtain ⟨a1, a2, a3, a4, a5, a6, h⟩ := h
  exact ⟨a1, a2, a3, a4, a5, a6, h.below hb⟩
theorem KR0.bw {W w : World} {g r : Nat} (h : KR0 W w g r) : Below W.heap.size W w := by
  obtain ⟨a1, a2, a3, a4, a5, a6, h⟩ := h
  exact KRS.bw h
theorem KR.below {W w w1 : World} {g r X : Nat} (h : KR W w g r X) (hb : Below w.heap.size w w1) : KR W w1 g r X := by
  obtain ⟨a1, a2, a3, a4, a5, a6, h, x1, x2, x3, x4⟩ := h
  exact ⟨a1, a2, a3, a4, a5, a6, h.below hb, x1, x2, x3, Nat.lt_of_lt_of_le x4 hb.size⟩
theorem KR.kr0 {W w : World} {g r X : Nat} (h : KR W w g r X) : KR0 W w g r := by
  obtain ⟨a1, a2, a3, a4, a5, a6, h, _⟩ := h
  exact ⟨a1, a2, a3, a4, a5, a6, h⟩
/-- A block that is new stands apart. -/
theorem KR0.new {W w : World} {g r : Nat} (h : KR0 W w g r) (o : Obj) : KR W (w.alloc o) g r w.heap.size := by
  obtain ⟨a1, a2, a3, a4, a5, a6, h⟩ := h
  have hl := h.low
  refine ⟨a1, a2, a3, a4, a5, a6, h.below ((Below.refl _ w).alloc (Nat.le_refl _) o), fun e => ?_, by omega, by omega, by simp⟩
  have := hl.2.2 _ e
  omega
theorem kr_start (W : World) : KR0 W ((W.alloc (.cells #[.map none, .string ⟨#[]⟩, .string ⟨#[]⟩, .string ⟨#[]⟩, .string ⟨#[]⟩, .string ⟨#[]⟩, .string ⟨#[]⟩, .string ⟨#[]⟩, .string ⟨#[]⟩, .string ⟨#[]⟩] 27)).alloc (.map #[] 0)) W.heap.size (W.heap.size + 1) := by
  have hs : (W.alloc (.cells #[.map none, .string ⟨#[]⟩, .string ⟨#[]⟩, .string ⟨#[]⟩, .string ⟨#[]⟩, .string ⟨#[]⟩, .string ⟨#[]⟩, .string ⟨#[]⟩, .string ⟨#[]⟩, .string ⟨#[]⟩] 27)).heap.size = W.heap.size + 1 := by simp
  have hm := mp_made (W.alloc (.cells #[.map none, .string ⟨#[]⟩, .string ⟨#[]⟩, .string ⟨#[]⟩, .string ⟨#[]⟩, .string ⟨#[]⟩, .string ⟨#[]⟩, .string ⟨#[]⟩, .string ⟨#[]⟩, .string ⟨#[]⟩] 27))
  rw [hs] at hm
  have hG : GR (W.alloc (.cells #[.map none, .string ⟨#[]⟩, .string ⟨#[]⟩, .string ⟨#[]⟩, .string ⟨#[]⟩, .string ⟨#[]⟩, .string ⟨#[]⟩, .string ⟨#[]⟩, .string ⟨#[]⟩, .string ⟨#[]⟩] 27)) W.heap.size none (fun _ => ⟨#[]⟩) 0 (List.replicate 9 ⟨#[]⟩) := by
    refine ⟨by rw [World.cell?_alloc_new]; rfl, fun i hi => ?_, rfl, fun j => by rw [World.frozen?_alloc_at _ _ _ _ rfl], fun b e => (by cases e), fun _ _ _ => rfl⟩
    rw [World.cell?_alloc_new]
    have hi' : i < 9 := by simpa using hi
    rw [List.getElem_replicate]
    rcases i with _ | _ | _ | _ | _ | _ | _ | _ | _ | i <;> first | rfl | omega
  refine ⟨none, fun _ => ⟨#[]⟩, 0, List.replicate 9 ⟨#[]⟩, fun _ => ⟨#[]⟩, 0, ⟨hG.keeps (S := fun _ => False) ((Keeps.refl _ _).alloc _) (fun x => x) (fun _ _ x => x), hm, fun _ _ => rfl, fun i hi => by rw [List.getElem_replicate], fun _ => Nat.zero_le _, fun _ => Nat.zero_le _, by omega, fun e => (by cases e), ⟨Nat.le_refl _, by omega, fun b e => (by cases e)⟩, ?_⟩⟩
  exact ((Below.refl _ W).alloc (Nat.le_refl _) _).alloc (by rw [hs]; omega) _
set_option maxRecDepth 100000 in
set_option maxHeartbeats 8000000 in
theorem regs_walk (v : Value) (l : List Rop) (look : ByteArray) (W : World) (hl : Rops W v l) (hg : Err.Home W) :
    Calls Tryd.prog 3 #[v, .string look] W fun e w' => e = .returned (.bool true) ∧ Below W.heap.size W w' := by
  have UH := Lib.hid hl
  have HG := Lib.hid hg
  obtain ⟨a, cap, rfl, -⟩ := hl
  clear hg
  by_cases h1 : 40 < l.length
  · go_enter Tryd.func3, Tryd.ntmps3
    go_wp2_with fail
    go_ret
    exact ⟨rfl, Below.refl _ _⟩
  by_cases h2 : 60 < look.size
  · go_enter Tryd.func3, Tryd.ntmps3
    go_wp2_with fail
    go_ret
    exact ⟨rfl, Below.refl _ _⟩
  have hmm := @run_makeMap Tryd.prog
  have S0 := Lib.hid (kr_start W)
  go_enter Tryd.func3, Tryd.ntmps3
  go_wp2_with fail
  generalize hw0 : (W.alloc (Obj.cells _ _)).alloc (Obj.map #[] 0) = w0 at *
  generalize W.heap.size + 1 = r at *
  clear hw0
  go_loopw [7] (fun i wr => ∃ k : Nat, k ≤ l.length ∧ i = .int .i64 k ∧ Hid (KR0 W wr W.heap.size r)) (fun i _ => l.length - (intOf i).toNat)
  case atStart => exact ⟨0, Nat.zero_le _, rfl, S0⟩
  case round =>
    obtain ⟨k, hk, rfl, hB⟩ := hrel
    by_cases hlt : k < l.length
    · obtain ⟨ad, rfl, x0, x1, x2, x3⟩ := UH.out.at_ k hlt
      have i1 : (0 : Int) ≤ (k : Int) := by omega
      have i2 : (k : Int) < (l.length : Int) := by omega
      have hbw := hB.out.bw
      have y0 := (hbw.cell (p := ad.add (k * 3)) (World.block_lt_of_cell? W _ x0)).trans x0
      have y1 := (hbw.cell (p := ⟨(ad.add (k * 3)).block, (ad.add (k * 3)).off + 1, none⟩) (World.block_lt_of_cell? W _ x1)).trans x1
      have y2 := (hbw.cell (p := ⟨(ad.add (k * 3)).block, (ad.add (k * 3)).off + 2, none⟩) (World.block_lt_of_cell? W _ x2)).trans x2
      clear x0 x1 x2 hbw
      generalize l[k] = x at *
      obtain ⟨wh, c, t⟩ := x
      simp only at y0 y1 y2 x3
      have e0 : (wr.alloc (Obj.cells #[Value.int IntKind.i64 wh, Value.int IntKind.u8 c, Value.string t] 30)).cell? ⟨wr.heap.size, 0, none⟩ = some (.int .i64 wh) := by rw [World.cell?_alloc_new]; rfl
      have e1 : (wr.alloc (Obj.cells #[Value.int IntKind.i64 wh, Value.int IntKind.u8 c, Value.string t] 30)).cell? ⟨wr.heap.size, 1, none⟩ = some (.int .u8 c) := by rw [World.cell?_alloc_new]; rfl
      have e2 : (wr.alloc (Obj.cells #[Value.int IntKind.i64 wh, Value.int IntKind.u8 c, Value.string t] 30)).cell? ⟨wr.heap.size, 2, none⟩ = some (.string t) := by rw [World.cell?_alloc_new]; rfl
      have K0 := Lib.hid (hB.out.new (Obj.cells #[Value.int IntKind.i64 wh, Value.int IntKind.u8 c, Value.string t] 30))
      go_upto_region 8 with fail
      generalize wr.alloc (Obj.cells #[Value.int IntKind.i64 wh, Value.int IntKind.u8 c, Value.string t] 30) = wq at *
      generalize wr.heap.size = X at *
      clear y0 y1 y2 hB
      have hbwq := Lib.hid K0.out.kr0.bw
      rcases (show (200 < t.size ∧ t.size < 3991) ∨ 4009 < t.size ∨ (t.size ≤ 200) ∨ (200 < t.size ∧ 3991 ≤ t.size ∧ t.size ≤ 4009) by omega) with ⟨q1, q2⟩ | q1 | q1 | ⟨q1, q2, q3⟩
      · go_wp2_with fail
        go_ret
        exact ⟨rfl, hbwq.out⟩
      · have q2 : 200 < t.size := by omega
        have q3 : ¬ t.size < 3991 := by omega
        go_wp2_with fail
        go_ret
        exact ⟨rfl, hbwq.out⟩
      all_goals
        have ht : t.size ≤ 4500 := by omega
        go_upto_block 2 with fail
        go_cut [] (fun wx => Hid (KR W wx W.heap.size r X))
        case first =>
          by_cases hput : wh = 0 ∨ wh = 1
          · have P1 := Lib.hid (put_pair (K0.out.below (Below.drew (Below.refl _ wq))) c x3 t (by omega))
            rcases hput with rfl | rfl
            all_goals
              go_wp2_with fail
              go_region_held3 (fun w' => w'.cell? ⟨X, 1, none⟩ = some (.int .u8 c) ∧ w'.cell? ⟨X, 2, none⟩ = some (.string t))
                (first | (go_split_ands; refine ⟨?_, ?_⟩ <;> assumption) | go_keep)
                (first
                  | (go_at_call 7; refine P1.out.mono ?_; rintro e w3 ⟨v, cc, rfl, hv, hc3, C2⟩; (have e31 := hc3 1 _ e1); (have e32 := hc3 2 _ e2); replace hv := Lib.hid hv; replace C2 := Lib.hid C2; clear hc3)
                  | (go_at_call 8; refine C2.out.mono ?_; rintro e w4 ⟨rfl, hK4, hc4⟩; (have e41 := hc4 1 _ e1); (have e42 := hc4 2 _ e2); (have b4 := Lib.hid hK4.kr0.bw); replace hK4 := Lib.hid hK4; clear hc4)
                  | (go_at_call 6; refine (Err.bare_any v cc (-1) cc _ (HG.out.below b4.out) (hv.out _)).mono ?_; rintro e w5 ⟨rfl, b5⟩; (have e51 := (b5.cell (p := ⟨X, 1, none⟩) (World.block_lt_of_cell? _ _ e41)).trans e41); (have e52 := (b5.cell (p := ⟨X, 2, none⟩) (World.block_lt_of_cell? _ _ e42)).trans e42); (have K5 := Lib.hid (hK4.out.below b5)); clear b5))
              all_goals
                go_wp2_with fail
                go_meet
                exact K5
          by_cases hcut2 : wh = 2
          · have P1 := Lib.hid (cut_pair (K0.out.below (Below.drew (Below.refl _ wq))) c x3 t (by omega))
            subst hcut2
            go_wp2_with fail
            go_region_held3 (fun w' => w'.cell? ⟨X, 1, none⟩ = some (.int .u8 c) ∧ w'.cell? ⟨X, 2, none⟩ = some (.string t))
              (first | (go_split_ands; refine ⟨?_, ?_⟩ <;> assumption) | go_keep)
              (first
                | (go_at_call 9; refine P1.out.mono ?_; rintro e w3 ⟨v, cc, rfl, hv, hc3, C2⟩; (have e31 := hc3 1 _ e1); (have e32 := hc3 2 _ e2); replace hv := Lib.hid hv; replace C2 := Lib.hid C2; clear hc3)
                | (go_at_call 10; refine C2.out.mono ?_; rintro e w4 ⟨rfl, hK4, hc4⟩; (have e41 := hc4 1 _ e1); (have e42 := hc4 2 _ e2); (have b4 := Lib.hid hK4.kr0.bw); replace hK4 := Lib.hid hK4; clear hc4)
                | (go_at_call 6; refine (Err.bare_any v cc (-1) cc _ (HG.out.below b4.out) (hv.out _)).mono ?_; rintro e w5 ⟨rfl, b5⟩; (have e51 := (b5.cell (p := ⟨X, 1, none⟩) (World.block_lt_of_cell? _ _ e41)).trans e41); (have e52 := (b5.cell (p := ⟨X, 2, none⟩) (World.block_lt_of_cell? _ _ e42)).trans e42); (have K5 := Lib.hid (hK4.out.below b5)); clear b5))
            all_goals
              go_wp2_with fail
              go_meet
              exact K5
          have n0 : (wh == 0) = false := by simp; omega
          have n1 : (wh == 1) = false := by simp; omega
          have n2 : (wh == 2) = false := by simp; omega
          clear hput hcut2
          go_wp2_with fail
          go_meet
          exact K0
        case rest =>
          have KC := Lib.hid hcut.out.kr0
          clear hcut e0 e1 e2 K0 hbwq
          go_wp2_with fail
          go_loopw [9] (fun i wr => ∃ j : Nat, j ≤ look.size ∧ i = .int .i64 j ∧ Hid (KR0 W wr W.heap.size r)) (fun i _ => look.size - (intOf i).toNat)
          case atStart => exact ⟨0, Nat.zero_le _, rfl, KC⟩
          case round =>
            obtain ⟨j, hj, rfl, hB⟩ := hrel
            by_cases hjl : j < look.size
            · have j1 : (0 : Int) ≤ (j : Int) := by omega
              have j2 : (j : Int) < (look.size : Int) := by omega
              have hcl : look[j].toNat < 256 := UInt8.toNat_lt _
              obtain ⟨s, kk, D1, D2⟩ := get_both hB.out look[j].toNat hcl
              have D1H := Lib.hid D1
              have D2H := Lib.hid D2
              have bB := Lib.hid hB.out.bw
              have NC := Lib.hid (name_any look[j].toNat hcl)
              have NR := Lib.hid (docName_any look[j].toNat hcl)
              have hnn : (nm look[j].toNat != nm look[j].toNat) = false := by simp
              have hcc : (kk == kk && (-1 : Int) == -1) = true := by simp
              clear D1 D2
              go_wp2_with fail
              refine D1H.out.mono ?_; rintro e w3 ⟨rfl, rfl⟩
              go_wp2_with fail
              refine D2H.out.mono ?_; rintro e w3 ⟨rfl, rfl⟩
              go_wp2_with fail
              go_region_held3 (fun _ => True) (trivial) (first
                | (go_at_call 6; refine (Err.bare_any (errV kk) kk (-1) kk _ (HG.out.below (Below.drew bB.out)) (errV_is _ kk)).mono ?_; rintro e w5 ⟨rfl, b5⟩; (have K5 := Lib.hid ((hB.out.below (Below.drew (Below.refl _ wr))).below b5)); clear b5)
                | (go_at_call 13; refine (NC.out _).mono ?_; rintro e w6 ⟨rfl, rfl⟩)
                | (go_at_call 14; refine (NR.out _).mono ?_; rintro e w6 ⟨rfl, rfl⟩))
              all_goals
                go_wp2_with fail
                go_roundw
                case rel => first | exact ⟨j + 1, by omega, by go_num, K5⟩ | ((repeat apply Exists.intro); exact ⟨⟨j + 1, by omega, by go_num, K5⟩, rfl⟩)
                case measure => simp [intOf]; omega
            · obtain rfl : j = look.size := by omega
              go_wp2_with fail
              go_roundw
              case rel => first | exact ⟨k + 1, by omega, by go_num, hB⟩ | ((repeat apply Exists.intro); exact ⟨⟨k + 1, by omega, by go_num, hB⟩, rfl⟩)
              case measure => simp [intOf]; omega
    · obtain rfl : k = l.length := by omega
      have hbw := Lib.hid hB.out.bw
      clear hB
      go_wp2_with fail
      go_ret
      exact ⟨rfl, hbw.out⟩
end Go.Proofs.YthkigjhbcempbaaDoor.Rg
