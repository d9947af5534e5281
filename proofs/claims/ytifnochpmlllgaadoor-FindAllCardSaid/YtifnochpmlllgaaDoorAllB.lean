/-
  PROVED HERE: where a pattern stands, as one function; the contracts of find.All, find.Borders. Conditions: as each theorem states.
-/
import Derived.Test.YtifnochpmlllgaaDoorAllA
namespace Go.Proofs.YtifnochpmlllgaaDoor.All
open Go.RowKit
/-- The error of a number. -/
def ev (c : Int) : Value := if c = 0 then .nilIface else .iface 23 (.int .i64 c)
theorem ev_is (w : World) (c : Int) : Err.ErrIs w (ev c) c (-1) := by
  unfold ev
  by_cases h : c = 0
  · subst h; exact .inl ⟨rfl, rfl, rfl⟩
  · rw [if_neg h]; exact .inr (.inl ⟨rfl, rfl⟩)
def RQ (l : List Int) (c : Int) (W : World) (e : Ending) (w' : World) : Prop := ∃ v, e = .returned (.tuple #[v, ev c]) ∧ Ints w' v l ∧ Below W.heap.size W w'
def DQ (l : List Int) (c : Int) (W : World) (e : Ending) (w' : World) : Prop := ∃ v, e = .returned (.tuple #[v, .int .i64 c]) ∧ Ints w' v l ∧ Below W.heap.size W w'
theorem ints_nil (w : World) : Ints w (.slice none 0 0) [] := ⟨none, 0, rfl, fun j hj => absurd hj (Nat.not_lt_zero j)⟩
/-- The pattern stands at place x. -/
def sg (s p : ByteArray) (x : Nat) : Bool := decide (mt s p p.size (x + p.size))
/-- Where it stands and ends within the first i bytes. -/
def al (s p : ByteArray) (i : Nat) : List Int := ((List.range (i + 1 - p.size)).filter (sg s p)).map fun x : Nat => (x : Int)
theorem al_succ (s p : ByteArray) (i : Nat) : al s p (i + 1) = al s p i ++ if p.size ≤ i + 1 ∧ sg s p (i + 1 - p.size) = true then [((i + 1 - p.size : Nat) : Int)] else [] := by
  unfold al
  by_cases h : p.size ≤ i + 1
  · rw [show i + 1 + 1 - p.size = (i + 1 - p.size) + 1 by omega, List.range_succ, List.filter_append, List.map_append]
    congr 1
    by_cases h2 : sg s p (i + 1 - p.size) = true
    · rw [if_pos ⟨h, h2⟩]; simp [h2]
    · rw [if_neg (fun x => h2 x.2)]; simp [h2]
  · rw [show i + 1 + 1 - p.size = 0 by omega, show i + 1 - p.size = 0 by omega, if_neg (fun x => h x.1)]
    simp
theorem al_len (s p : ByteArray) (i : Nat) : (al s p i).length ≤ i + 1 := by
  unfold al
  rw [List.length_map]
  have := List.length_filter_le (sg s p) (List.range (i + 1 - p.size))
  rw [List.length_range] at this
  omega
theorem al_zero (s p : ByteArray) (h : 1 ≤ p.size) : al s p 0 = [] := by
  unfold al
  rw [show 0 + 1 - p.size = 0 by omega]; rfl
theorem al_hit {s p : ByteArray} {i : Nat} (h : lg s p (i + 1) p.size = p.size) : al s p (i + 1) = al s p i ++ [((i + 1 - p.size : Nat) : Int)] := by
  have hm := lg_mt s p (i + 1) p.size
  rw [h] at hm
  have h1 := hm.1
  rw [al_succ, if_pos ⟨h1, by unfold sg; rw [decide_eq_true_iff, show i + 1 - p.size + p.size = i + 1 by omega]; exact hm⟩]
theorem al_miss {s p : ByteArray} {i : Nat} (h : lg s p (i + 1) p.size ≠ p.size) : al s p (i + 1) = al s p i := by
  rw [al_succ, if_neg, List.append_nil]
  rintro ⟨h1, h2⟩
  unfold sg at h2
  rw [decide_eq_true_iff, show i + 1 - p.size + p.size = i + 1 by omega] at h2
  have := lg_le s p (i + 1) p.size
  exact lg_max s p (i + 1) p.size p.size (by omega) (Nat.le_refl _) h2
theorem Tb.below {p : ByteArray} {w w' : World} {g i : Nat} {L : List Int} (h : Tb p w g L i) (hb : Below w.heap.size w w') : Tb p w' g L i := ⟨h.1.below hb, h.2.1, h.2.2⟩
def Ao (s p : ByteArray) (w1 : World) (v kv iv : Value) (wr : World) : Prop :=
  ∃ (i : Nat) (z : Int), i ≤ s.size ∧ iv = .int .i64 i ∧ kv = .int .i64 z ∧ Hid (z = (lg s p i p.size : Nat)) ∧ (∃ a cap, v = .slice a (al s p i).length cap) ∧ Hid (Own wr w1.heap.size 3 v (i64s (al s p i))) ∧ Hid (Below w1.heap.size w1 wr)
def Ai (s p : ByteArray) (w1 : World) (v : Value) (i : Nat) (kv : Value) (wr : World) : Prop :=
  ∃ z : Int, kv = .int .i64 z ∧ Hid (kq s p (p.size + 1) i z) ∧ Hid (Own wr w1.heap.size 3 v (i64s (al s p i))) ∧ Hid (Below w1.heap.size w1 wr)
set_option maxRecDepth 100000 in
set_option maxHeartbeats 2000000 in
theorem all_yes (s p : ByteArray) (hs : s.size ≤ 1000) (hp1 : 1 ≤ p.size) (hp : p.size ≤ 1000) (W : World) :
    Calls Tryd.prog 55 #[.string s, .string p] W (RQ (al s p s.size) 0 W) := by
  have hz := str_full p hp1
  have CB := Lib.hid (borders_any p hp)
  go_enter Tryd.func55, Tryd.ntmps55
  go_wp2_with fail
  refine (CB.out _).mono ?_; rintro e w1 ⟨L, rfl, hT, h1⟩
  have hTH := Lib.hid hT
  have H1 := Lib.hid h1
  clear hz CB hT h1
  go_wp2_with fail
  go_loopw [7, 8, 17] (fun v k i wr => Ao s p w1 v k i wr) (fun _ _ i _ => s.size - (intOf i).toNat)
  case atStart => exact ⟨0, 0, Nat.zero_le _, rfl, rfl, Lib.hid (by
    rw [lg_eq (c := 0) (Nat.zero_le _) (mt_zero _ _ _) (fun j h1 _ h3 => by have := h3.1; omega)]; rfl), ⟨none, 0, by rw [al_zero s p hp1]; rfl⟩, Lib.hid (by rw [al_zero s p hp1]; exact own_nil _ _ _), Lib.hid (Below.refl _ _)⟩
  case round =>
    obtain ⟨i, z0, hi, rfl, rfl, hz0, ⟨a, cap, rfl⟩, ho0, hB0⟩ := hrel
    have hll := al_len s p i
    by_cases hlt : i < s.size
    · go_wp2_with fail
      go_loopw [8] (fun v wr => Ai s p w1 (.slice a (al s p i).length cap) i v wr) (fun v _ => (intOf v + 1).toNat)
      case atStart => exact ⟨z0, rfl, Lib.hid (by rw [hz0.out]; exact kq_start s p i), ho0, hB0⟩
      case round =>
        obtain ⟨z, rfl, hq, ho, hBH⟩ := hrel
        clear ho0 hB0 hz0
        have hT := Lib.hid (hTH.out.below hBH.out)
        have j1 : (0 : Int) ≤ (i : Int) := by omega
        have j2 : (i : Int) < (s.size : Int) := by omega
        rcases (show z = -1 ∨ ∃ k : Nat, z = k by have := hq.out.1; rcases Int.lt_or_le z 0 with h | h; · left; omega
                                                  · right; exact ⟨z.toNat, by omega⟩) with rfl | ⟨k, rfl⟩
        · have hV := Lib.hid (kq_none hq.out (show p.size ≤ p.size + 1 by omega) (Nat.le_refl _))
          have hM := Lib.hid (al_miss (s := s) (p := p) (i := i) (by rw [hV.out]; omega))
          have b0 : ((0 : Int) == (p.size : Int)) = false := by rw [beq_eq_false_iff_ne]; omega
          go_wp2_with fail
          go_quiet (fail)
          go_wp2_with fail
          go_roundw
          case rel => first | exact ⟨i + 1, 0, by omega, by go_num, rfl, Lib.hid (by rw [hV.out]; rfl), ⟨_, _, by rw [hM.out]⟩, by rw [hM.out]; exact Lib.hid ho.out, Lib.hid (below_drewN hBH.out _)⟩ | ((repeat apply Exists.intro); exact ⟨⟨i + 1, 0, by omega, by go_num, rfl, Lib.hid (by rw [hV.out]; rfl), ⟨_, _, by rw [hM.out]⟩, by rw [hM.out]; exact Lib.hid ho.out, Lib.hid (below_drewN hBH.out _)⟩, rfl⟩)
          case measure => simp [intOf]; omega
        · have hki := (hq.out.2.1 k rfl).1
          have k1 : (0 : Int) ≤ (k : Int) := by omega
          have k3 : (k : Int) < (p.size : Int) + 1 := by omega
          have e2 := Lib.hid (byteAt_eq s i hlt)
          obtain ⟨hc2, _⟩ := hT.out.cell k (by omega)
          rw [hT.out.2.2 k (by omega)] at hc2
          by_cases hkp : k < p.size
          · have k2 : (k : Int) < (p.size : Int) := by omega
            have b0 : ((k : Int) == (p.size : Int)) = false := by rw [beq_eq_false_iff_ne]; omega
            have e1 := Lib.hid (byteAt_eq p k hkp)
            by_cases heq : p[k].toNat = s[i].toNat
            · have b1 : ((p[k].toNat : Int) == (s[i].toNat : Int)) = true := by rw [beq_iff_eq]; omega
              have b2 : ((p[k].toNat : Int) != (s[i].toNat : Int)) = false := by rw [bne_eq_false_iff_eq]; omega
              have hV := Lib.hid (kq_hit hq.out ⟨hkp, by rw [← e1.out, ← e2.out]; exact heq⟩ (show p.size ≤ p.size + 1 by omega) (Nat.le_refl _) hkp)
              by_cases hfull : k + 1 = p.size
              · have b3 : ((k : Int) + 1 == (p.size : Int)) = true := by rw [beq_iff_eq]; omega
                have hM := Lib.hid (al_hit (s := s) (p := p) (i := i) (by rw [hV.out]; exact hfull))
                have hle : p.size ≤ i + 1 := by have := lg_mt s p (i + 1) p.size; rw [hV.out, hfull] at this; exact this.1
                have hv : Hid ((i : Int) + 1 - ((k : Int) + 1) = ((i + 1 - p.size : Nat) : Int)) := Lib.hid (by omega)
                go_wp2_with fail
                go_quiet (fail)
                go_wp2_with (at_builtin; refine own_append1 rfl _ _ 50 rfl w1.heap.size 3 (.int .i64 0) 8 Tryd.underlying50 (by kernel_rfl) rfl _ _ rfl ((ho.out.drewN _).alloc _) _ 1 _ rfl (new_cell _ _ _) rfl (by rw [i64s_len]; omega) (by rw [i64s_len]; omega) (le_alloc hBH.out.size _) ?_; intro v1 w2 ho1 hg1 hb1 hat1; have hb2 := below_append (below_drewN hBH.out _) _ hBH.out.size hb1; rw [hv.out, i64s_snoc, ← hM.out] at ho1; have hB1 := Lib.hid hb2; have ho1H := Lib.hid ho1; clear hg1 hb1 hat1 hb2 ho1)
                go_roundw
                case rel => first | exact ⟨i + 1, (k : Int) + 1, by omega, by go_num, rfl, Lib.hid (by rw [hV.out]; rfl), (by obtain ⟨a', c', e'⟩ := ho1H.out.len; rw [i64s_len] at e'; exact ⟨a', c', e'⟩), ho1H, hB1⟩ | ((repeat apply Exists.intro); exact ⟨⟨i + 1, (k : Int) + 1, by omega, by go_num, rfl, Lib.hid (by rw [hV.out]; rfl), (by obtain ⟨a', c', e'⟩ := ho1H.out.len; rw [i64s_len] at e'; exact ⟨a', c', e'⟩), ho1H, hB1⟩, rfl⟩)
                case measure => simp [intOf]; omega
              · have b3 : ((k : Int) + 1 == (p.size : Int)) = false := by rw [beq_eq_false_iff_ne]; omega
                have hM := Lib.hid (al_miss (s := s) (p := p) (i := i) (by rw [hV.out]; exact hfull))
                go_wp2_with fail
                go_quiet (fail)
                go_wp2_with fail
                go_roundw
                case rel => first | exact ⟨i + 1, (k : Int) + 1, by omega, by go_num, rfl, Lib.hid (by rw [hV.out]; rfl), ⟨_, _, by rw [hM.out]⟩, by rw [hM.out]; exact Lib.hid ho.out, Lib.hid (below_drewN hBH.out _)⟩ | ((repeat apply Exists.intro); exact ⟨⟨i + 1, (k : Int) + 1, by omega, by go_num, rfl, Lib.hid (by rw [hV.out]; rfl), ⟨_, _, by rw [hM.out]⟩, by rw [hM.out]; exact Lib.hid ho.out, Lib.hid (below_drewN hBH.out _)⟩, rfl⟩)
                case measure => simp [intOf]; omega
            · have b1 : ((p[k].toNat : Int) == (s[i].toNat : Int)) = false := by rw [beq_eq_false_iff_ne]; omega
              have b2 : ((p[k].toNat : Int) != (s[i].toNat : Int)) = true := by rw [bne_iff_ne]; omega
              have hV := Lib.hid (kq_step hq.out (fun h => heq (by rw [e1.out, e2.out]; exact h.2)))
              go_wp2_with fail
              go_quiet (fail)
              go_wp2_with fail
              go_roundw
              case rel => exact ⟨bv p k, rfl, hV, Lib.hid ho.out, Lib.hid (below_drewN hBH.out _)⟩
              case measure => have := bv_lt p k; simp [intOf]; omega
          · have b0 : ((k : Int) == (p.size : Int)) = true := by rw [beq_iff_eq]; omega
            have hV := Lib.hid (kq_step hq.out (fun h => hkp h.1))
            go_wp2_with fail
            go_quiet (fail)
            go_wp2_with fail
            go_roundw
            case rel => exact ⟨bv p k, rfl, hV, Lib.hid ho.out, Lib.hid (below_drewN hBH.out _)⟩
            case measure => have := bv_lt p k; simp [intOf]; omega
    · obtain rfl : i = s.size := by omega
      go_wp2_with fail
      go_ret2
      exact ⟨_, rfl, ho0.out.ints, H1.out.trans (hB0.out.mono H1.out.size)⟩
theorem all_no (s : ByteArray) (W : World) :
    Calls Tryd.prog 55 #[.string s, .string ⟨#[]⟩] W (RQ [] 1 W) := by
  go_enter Tryd.func55, Tryd.ntmps55
  go_wp2_with fail
  go_ret2
  exact ⟨_, rfl, ints_nil _, Below.refl _ _⟩
def fl (s p : ByteArray) : List Int := if p.size = 0 then [] else al s p s.size
def fc (p : ByteArray) : Int := if p.size = 0 then 1 else 0
theorem empty_of (p : ByteArray) (h : p.size = 0) : p = ⟨#[]⟩ := by
  cases p with
  | mk d =>
    have e : d.size = 0 := h
    rw [Array.eq_empty_of_size_eq_zero e]
theorem all_any (s p : ByteArray) (hs : s.size ≤ 1000) (hp : p.size ≤ 1000) (W : World) :
    Calls Tryd.prog 55 #[.string s, .string p] W (RQ (fl s p) (fc p) W) := by
  unfold fl fc
  by_cases h : p.size = 0
  · rw [if_pos h, if_pos h, empty_of p h]
    exact all_no s W
  · rw [if_neg h, if_neg h]
    exact all_yes s p hs (by omega) hp W
end Go.Proofs.YtifnochpmlllgaaDoor.All
