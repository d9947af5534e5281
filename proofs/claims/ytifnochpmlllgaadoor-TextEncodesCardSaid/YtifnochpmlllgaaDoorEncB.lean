/-
  PROVED HERE: contracts of text.Encode and of the document's TextEncode. Conditions: as each theorem states.
-/
import Derived.Test.YtifnochpmlllgaaDoorEncA
import Derived.Test.YtifnochpmlllgaaDoorShelf
namespace Go.Proofs.YtifnochpmlllgaaDoor.Enc
open Go.RowKit Go.Proofs.YtifnochpmlllgaaDoor.Chr

instance (r : Int) : Decidable (sgn r) := inferInstanceAs (Decidable ((0 ≤ r ∧ r ≤ 55295) ∨ (57344 ≤ r ∧ r ≤ 1114111)))
/-- What signs are, each one's bytes by f, from place i on, behind out. -/
def er (f : Nat → List UInt8) : List Int → Nat → List UInt8 → Res
  | [], _, out => .good out
  | r :: rs, i, out => if sgn r then er f rs (i + 1) (out ++ f r.toNat) else .bad 1 i
theorem er_go (f : Nat → List UInt8) (l : List Int) (k : Nat) (out : List UInt8) (h : k < l.length) (hs : sgn l[k]) : er f (l.drop k) k out = er f (l.drop (k + 1)) (k + 1) (out ++ f l[k].toNat) := by
  rw [List.drop_eq_getElem_cons h, er, if_pos hs]
theorem er_bad (f : Nat → List UInt8) (l : List Int) (k : Nat) (out : List UInt8) (h : k < l.length) (hs : ¬ sgn l[k]) : er f (l.drop k) k out = .bad 1 k := by
  rw [List.drop_eq_getElem_cons h, er, if_neg hs]
theorem er_end (f : Nat → List UInt8) (l : List Int) (k : Nat) (out : List UInt8) (h : l.length ≤ k) : er f (l.drop k) k out = .good out := by
  rw [List.drop_eq_nil_of_le h]; rfl
theorem sgn_nat (r : Int) (h : sgn r) : 0 ≤ r ∧ r ≤ 1114111 := by unfold sgn at h; omega
theorem sb_len (r : Nat) : (sb r).length ≤ 4 := by unfold sb; split <;> (try split) <;> (try split) <;> simp
theorem runeCells_is (r : Nat) (h : sgn r) : Lib.runeCells (r : Int) = u8s (sb r) := by
  unfold sgn at h
  unfold Lib.runeCells sb
  have t0 : ((tl r 0).toNat : Int) = 128 + (r : Int) % 64 := by unfold tl; rw [UInt8.toNat_ofNat', Nat.pow_zero]; omega
  have t1 : ((tl r 1).toNat : Int) = 128 + (r : Int) / 64 % 64 := by unfold tl; rw [UInt8.toNat_ofNat', Nat.pow_one]; omega
  have t2 : ((tl r 2).toNat : Int) = 128 + (r : Int) / 4096 % 64 := by unfold tl; rw [UInt8.toNat_ofNat', show (64 : Nat) ^ 2 = 4096 from rfl]; omega
  have u : ∀ x : Nat, x < 256 → ((UInt8.ofNat x).toNat : Int) = (x : Int) := fun x hx => by rw [UInt8.toNat_ofNat']; omega
  by_cases h1 : r < 128
  · rw [Lib.encodeRuneZ_one (by omega) (by omega), if_pos h1]
    simp only [u8s, List.map_cons, List.map_nil, u r (by omega)]
  rw [if_neg h1]
  by_cases h2 : r < 2048
  · rw [Lib.encodeRuneZ_two (by omega) (by omega), if_pos h2]
    simp only [u8s, List.map_cons, List.map_nil, u _ (show 192 + r / 64 < 256 by omega), t0]
    simp
  rw [if_neg h2]
  by_cases h3 : r < 65536
  · rw [Lib.encodeRuneZ_three (by omega), if_pos h3]
    simp only [u8s, List.map_cons, List.map_nil, u _ (show 224 + r / 4096 < 256 by omega), t0, t1]
    simp
  rw [if_neg h3]
  rw [Lib.encodeRuneZ_four (by omega) (by omega)]
  simp only [u8s, List.map_cons, List.map_nil, u _ (show 240 + r / 262144 < 256 by omega), t0, t1, t2]
  simp

def AppPost (B : Nat) (l : List UInt8) (w : World) (e : Ending) (w' : World) : Prop := ∃ v', e = .returned v' ∧ Own w' B 5 v' (u8s l) ∧ Below B w w'
theorem appendRune_any (B : Nat) (v : Value) (l : List UInt8) (r : Nat) (hs : sgn r) (w : World) (ho : Own w B 5 v (u8s l)) (hl : l.length ≤ 1000000) (hB : B ≤ w.heap.size) :
    Calls Tryd.prog 79 #[v, .int .i32 r] w (AppPost B (l ++ sb r) w) := by
  have hb := sgn_nat _ hs
  refine (Tryd.utf8_AppendRune_plain B v (u8s l).length (u8s l) r (by omega) (by omega) w ho (by rw [u8s_len]; omega) hB).mono ?_
  rintro e w' ⟨v', rfl, ho', o, hg⟩
  refine ⟨v', rfl, ?_, ((Below.refl B w).alloc hB o).grown hg (le_alloc hB o) (fun k hk => (ho.lt k hk).1)⟩
  rw [runeCells_is r hs] at ho'
  have e : u8s l ++ u8s (sb r) = u8s (l ++ sb r) := by simp [u8s]
  rw [e] at ho'
  unfold Own
  rw [u8s_len, List.length_append]
  rw [u8s_len, u8s_len] at ho'
  exact ho'

set_option maxRecDepth 100000 in
set_option maxHeartbeats 800000 in
theorem encode_any (v : Value) (l : List Int) (W : World) (hi : Ints W v l) (hl : l.length ≤ 1000) (hw : ∀ x ∈ l, -9223372036854775808 ≤ x ∧ x ≤ 9223372036854775807) :
    Calls Tryd.prog 34 #[v] W (RPost (er sb l 0 []) W) := by
  obtain ⟨a, cap, rfl, hc⟩ := hi
  have hcH := Lib.hid hc
  have hwH := Lib.hid hw
  clear hc hw
  have hZ : Hid (er sb (l.drop 0) 0 [] = er sb l 0 []) := Lib.hid rfl
  generalize er sb l 0 [] = Z at *
  go_enter Tryd.func34, Tryd.ntmps34
  go_wp2_with fail
  go_loopw [4, 9] (fun b i wr => ∃ (k : Nat) (out : List UInt8), k ≤ l.length ∧ i = .int .i64 k ∧ Hid (er sb (l.drop k) k out = Z) ∧ Hid (out.length ≤ 4 * k) ∧ Hid (Own wr W.heap.size 5 b (u8s out)) ∧ Below W.heap.size W wr) (fun _ i _ => l.length - (intOf i).toNat)
  case atStart => exact ⟨0, [], Nat.zero_le _, rfl, hZ, Lib.hid (Nat.le_refl _), Lib.hid (own_nil _ _ _), Below.refl _ _⟩
  case round =>
    obtain ⟨k, out, hk, rfl, hu, hol, ho, hB⟩ := hrel
    have hBH := Lib.hid hB
    clear hB hZ
    by_cases hlt : k < l.length
    · obtain ⟨ad, rfl, hcell0⟩ := hcH.out k hlt
      have hcell := (hBH.out.cell (p := ad.add k) (World.block_lt_of_cell? W _ hcell0)).trans hcell0
      have hx := hwH.out l[k] (List.getElem_mem hlt)
      have i1 : (0 : Int) ≤ (k : Int) := by omega
      have i2 : (k : Int) < (l.length : Int) := by omega
      by_cases hs : sgn l[k]
      · have hn := sgn_nat _ hs
        have hu2 := Lib.hid ((er_go sb l k out hlt hs).symm.trans hu.out)
        obtain ⟨r, hr⟩ := Int.eq_ofNat_of_zero_le hn.1
        rw [hr] at hcell hs hu2 hn
        rw [Int.toNat_natCast] at hu2
        have hlen := sb_len r
        have hlenH := Lib.hid hlen
        clear hlen hcell0 hr hx
        go_wp2_with fail
        refine (is_yes _ hs _).mono ?_; rintro e w' ⟨rfl, rfl⟩
        go_wp2_with fail
        refine (appendRune_any W.heap.size _ out r hs _ ho.out (by have := hol.out; omega) hBH.out.size).mono ?_; rintro e w1 ⟨v1, rfl, ho1, hb1⟩
        have hb1H := Lib.hid hb1
        have ho1H := Lib.hid ho1
        clear hb1 ho1
        go_wp2_with fail
        go_roundw
        case rel => exact ⟨k + 1, _, by omega, by go_num, hu2, Lib.hid (by have := hol.out; have := hlenH.out; simp; omega), ho1H, hBH.out.trans hb1H.out⟩
        case measure => simp [intOf]; omega
      · have hu2 := Lib.hid ((er_bad sb l k out hlt hs).symm.trans hu.out)
        have hsH := Lib.hid hs
        clear hs hcell0
        generalize l[k] = r at *
        go_wp2_with fail
        refine (is_no _ hsH.out _).mono ?_; rintro e w' ⟨rfl, rfl⟩
        go_wp2_with fail
        go_ret2
        rw [← hu2.out]
        exact ⟨_, rfl, .inr (.inr ⟨wr.heap.size, 0, rfl, by simp [Res.err], by simp [Res.at_]⟩), hBH.out.alloc hBH.out.size _⟩
    · have hu2 := Lib.hid ((er_end sb l k out (by omega)).symm.trans hu.out)
      have hstr := own_string (P := Tryd.prog) (T := 106) (S := 9) ho.out Tryd.underlying106 Tryd.underlying5 Tryd.underlying9
      go_wp2_with fail
      go_ret2
      rw [← hu2.out]
      exact ⟨_, rfl, .inl ⟨rfl, rfl, rfl⟩, hBH.out⟩
end Go.Proofs.YtifnochpmlllgaaDoor.Enc
