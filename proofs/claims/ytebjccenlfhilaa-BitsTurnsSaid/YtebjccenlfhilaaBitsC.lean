/-
  PROVED HERE: contracts of bits.Rotate and of the document's BitsRotate, and that the law BitsTurns returns true. Conditions: as each theorem states.
-/
import Derived.Test.YtebjccenlfhilaaRows
import Derived.Test.YtebjccenlfhilaaBitsB
import Derived.Deep.OwnRows
namespace Go.Proofs.Ytebjccenlfhilaa.Bits
open Go.RowKit

/-! ### where a bit comes from -/
theorem tmod_emod (a b : Int) : (a.tmod b) % b = a % b := by
  have h := Int.mul_tdiv_add_tmod a b
  have : a.tmod b = a - b * a.tdiv b := by omega
  rw [this, Int.sub_mul_emod_self_left]
theorem tmod_bd (a b : Int) (hb : 0 < b) : -b < a.tmod b ∧ a.tmod b < b := by
  refine ⟨?_, Int.tmod_lt_of_pos a hb⟩
  have h := Int.tmod_lt_of_pos (-a) hb
  rw [Int.neg_tmod] at h
  omega
/-- The place, round about, of bit j behind bit 8 i, n farther. -/
def rotP (s : ByteArray) (n : Int) (i j : Nat) : Nat := (((8 * i + j : Nat) + n) % (8 * (s.size : Int))).toNat
theorem rotP_is (s : ByteArray) (n : Int) (i j : Nat) (h : 0 < s.size) : ((rotP s n i j : Nat) : Int) = (8 * (i : Int) + (j : Int) + n) % (8 * (s.size : Int)) := by
  unfold rotP
  rw [Int.toNat_of_nonneg (Int.emod_nonneg _ (by omega))]
  simp
theorem rotP_lt (s : ByteArray) (n : Int) (i j : Nat) (h : 0 < s.size) : rotP s n i j < 8 * s.size := by
  have h1 := rotP_is s n i j h
  have h2 := Int.emod_lt_of_pos (8 * (i : Int) + (j : Int) + n) (show (0 : Int) < 8 * (s.size : Int) by omega)
  omega
theorem rot_doc (s : ByteArray) (n q : Int) (i j : Nat) (h : 0 < s.size) (hq : (8 * (i : Int) + (j : Int) + n.tmod (8 * (s.size : Int))).tmod (8 * (s.size : Int)) = q) :
    (q + 8 * (s.size : Int)) % (8 * (s.size : Int)) = ((rotP s n i j : Nat) : Int) := by
  rw [rotP_is s n i j h, Int.add_emod_right, ← hq, tmod_emod, Int.add_emod, tmod_emod, ← Int.add_emod]

theorem bitAt_at1 (s : ByteArray) (p : Nat) (hp : p < 8 * s.size) (hs : s.size ≤ 1000) (w : World) :
    Calls Try.prog 29 #[.string s, .int .i64 (p : Int), .int .i64 1] w fun e w' => e = .returned (.int .u64 ((bitB (byteAt s (p / 8)) (p % 8) : Nat) / 128 : Int)) ∧ w = w' :=
  (bitAt_big s _ (by omega) (by omega) hs w).mono fun e w' ⟨he, hw⟩ => ⟨he, hw⟩
/-- The byte made of the first j bits from bit 8 i on, n farther. -/
def docR (s : ByteArray) (n : Int) (i : Nat) : Nat → Nat
  | 0 => 0
  | j + 1 => docR s n i j * 2 + bitB (byteAt s (rotP s n i j / 8)) (rotP s n i j % 8) / 128
theorem docR_lt (s : ByteArray) (n : Int) (i : Nat) : ∀ j, docR s n i j < 2 ^ j
  | 0 => by simp [docR]
  | j + 1 => by
    have := docR_lt s n i j
    have := bitB_lt (byteAt s (rotP s n i j / 8)) (rotP s n i j % 8)
    rw [docR, Nat.pow_succ]; omega
theorem docR_le (s : ByteArray) (n : Int) (i j : Nat) (h : j ≤ 8) : docR s n i j < 256 := Nat.lt_of_lt_of_le (docR_lt s n i j) (Nat.pow_le_pow_right (by omega) h)
theorem docR_succ (s : ByteArray) (n : Int) (i j : Nat) : ((docR s n i (j + 1) : Nat) : Int) = (docR s n i j : Nat) * 2 + (bitB (byteAt s (rotP s n i j / 8)) (rotP s n i j % 8) : Nat) / 128 := by rw [docR, Int.natCast_add]; rfl
/-- The first k bytes of the text turned round about. -/
def rots (s : ByteArray) (n : Int) (k : Nat) : List UInt8 := (List.range k).map fun i => UInt8.ofNat (docR s n i 8)
theorem rots_succ (s : ByteArray) (n : Int) (k : Nat) : rots s n (k + 1) = rots s n k ++ [UInt8.ofNat (docR s n k 8)] := by unfold rots; rw [List.range_succ]; simp
theorem rots_len (s : ByteArray) (n : Int) (k : Nat) : (rots s n k).length = k := by simp [rots]
def rotS (s : ByteArray) (n : Int) (k : Nat) : ByteArray := ⟨(rots s n k).toArray⟩
theorem rotS_size (s : ByteArray) (n : Int) (k : Nat) : (rotS s n k).size = k := by show (rots s n k).toArray.size = k; simp [rots_len]
theorem rotS_succ (s : ByteArray) (n : Int) (k : Nat) : rotS s n (k + 1) = rotS s n k ++ ⟨#[UInt8.ofNat (docR s n k 8 % 256)]⟩ := by
  apply ByteArray.ext
  unfold rotS
  rw [rots_succ, ByteArray.data_append, Nat.mod_eq_of_lt (docR_le s n k 8 (by omega))]
  simp

set_option maxHeartbeats 800000 in
theorem docRotate (s : ByteArray) (n : Int) (h0 : 0 < s.size) (hs : s.size ≤ 1000) (w : World) :
    Calls Try.prog 22 #[.string s, .int .i64 n] w fun e w' => e = .returned (.string (rotS s n s.size)) ∧ Below w.heap.size w w' := by
  obtain ⟨hr1, hr2⟩ := tmod_bd n (8 * (s.size : Int)) (by omega)
  have HR := Lib.hid (fun i j q => rot_doc s n q i j h0)
  generalize hr : n.tmod (8 * (s.size : Int)) = r at *
  have hz : (8 * (s.size : Int) == 0) = false := by rw [beq_eq_false_iff_ne]; omega
  go_enter Try.func22, Try.ntmps22
  go_wp2
  go_loopw [6, 7] (fun o i wr => ∃ k : Nat, k ≤ s.size ∧ i = .int .i64 k ∧ o = .string (rotS s n k) ∧ Below w.heap.size w wr) (fun _ i _ => s.size - (intOf i).toNat)
  case atStart => exact ⟨0, Nat.zero_le _, rfl, rfl, Below.refl _ _⟩
  case round =>
    obtain ⟨k, hk, rfl, rfl, hB⟩ := hrel
    have hB := Lib.hid hB
    by_cases hlt : k < s.size
    · go_wp2
      go_loop [8, 9] (fun b j => ∃ m : Nat, m ≤ 8 ∧ j = .int .i64 m ∧ b = .int .u64 (docR s n k m : Nat)) (fun _ j => 8 - (intOf j).toNat)
      case atStart => exact ⟨0, by omega, rfl, rfl⟩
      case round =>
        obtain ⟨m, hm, rfl, rfl⟩ := hrel
        have hd := docR_le s n k m hm
        by_cases hm8 : m < 8
        · have HD := Lib.hid (docR_succ s n k m)
          obtain ⟨hq1, hq2⟩ := tmod_bd (8 * (k : Int) + (m : Int) + r) (8 * (s.size : Int)) (by omega)
          have hp := rotP_lt s n k m h0
          have hb := bitB_lt (byteAt s (rotP s n k m / 8)) (rotP s n k m % 8)
          have hR := HR.out k m _ rfl
          generalize hq : (8 * (k : Int) + (m : Int) + r).tmod (8 * (s.size : Int)) = q at *
          go_wp2_with (go_at_call 29; refine (bitAt_at1 s _ hp hs _).mono ?_; rintro e w' ⟨rfl, rfl⟩)
          go_round
          case rel => exact ⟨m + 1, by omega, by go_num, by rw [HD.out]⟩
          case measure => simp [intOf]; omega
        · obtain rfl : m = 8 := by omega
          have hsz : (rotS s n k).size ≤ 1000 := by rw [rotS_size]; omega
          go_wp2_with (go_at_call 30; refine (char_any _ (by omega) _).mono ?_; rintro e w' ⟨rfl, hb'⟩; have hbH := Lib.hid (hB.out.trans (hb'.mono hB.out.size)))
          clear hb'
          go_roundw
          case rel => exact ⟨k + 1, by omega, by go_num, by rw [rotS_succ], hbH.out⟩
          case measure => simp [intOf]; omega
    · obtain rfl : k = s.size := by omega
      go_wp2
      go_ret
      exact ⟨rfl, hB.out⟩

/-! ### the program's way -/
/-- a new block of n zero bytes -/
theorem buf_made (w : World) (n : Nat) : Buf (w.alloc (.cells (madeCells #[.int .u8 0] n) 5)) w.heap.size (List.replicate n 0) := by
  refine ⟨by simp, fun j hj => ⟨?_, ?_⟩⟩
  · have hj' : j < n := by simpa using hj
    rw [World.cell?_alloc_new]
    have := toList_madeCells_one (.int .u8 0) n
    rw [← Array.getElem?_toList, this]
    simp [hj']
  · rw [World.frozen?_alloc_mark]; simp
/-- The first k bytes of what is made, the others 0. -/
def rotsZ (s : ByteArray) (n : Int) (k : Nat) : List UInt8 := rots s n k ++ List.replicate (s.size - k) 0
theorem rotsZ_len (s : ByteArray) (n : Int) (k : Nat) (h : k ≤ s.size) : (rotsZ s n k).length = s.size := by simp [rotsZ, rots_len]; omega
theorem rotsZ_set (s : ByteArray) (n : Int) (k : Nat) (h : k < s.size) : (rotsZ s n k).set k (UInt8.ofNat (docR s n k 8)) = rotsZ s n (k + 1) := by
  unfold rotsZ
  rw [List.set_append_right _ _ (by rw [rots_len]; omega), rots_len, rots_succ, show s.size - k = (s.size - (k + 1)) + 1 from by omega, List.replicate_succ]
  simp

theorem rotP_step (s : ByteArray) (n : Int) (i j : Nat) (h : 0 < s.size) : rotP s n i j = (rotP s n i 0 + j) % (8 * s.size) := by
  have h1 := rotP_is s n i j h
  have h2 := rotP_is s n i 0 h
  have e : ((rotP s n i j : Nat) : Int) = (((rotP s n i 0 + j) % (8 * s.size) : Nat) : Int) := by
    rw [h1]
    simp only [Int.natCast_emod, Int.natCast_add, Int.natCast_mul, h2]
    have e8 : (((8 : Nat) : Int)) = 8 := rfl
    rw [e8, Int.emod_add_emod]
    congr 1
    simp; omega
  omega
theorem rotP_at (m p j : Nat) (hp : p < 8 * m) (hj : j < 8) : (p + j) % (8 * m) / 8 = (if p % 8 + j < 8 then p / 8 else (p / 8 + 1) % m) ∧ (p + j) % (8 * m) % 8 = (if p % 8 + j < 8 then p % 8 + j else p % 8 + j - 8) := by
  by_cases h : p % 8 + j < 8
  · rw [if_pos h, if_pos h, Nat.mod_eq_of_lt (show p + j < 8 * m by omega)]; omega
  · rw [if_neg h, if_neg h]
    by_cases h2 : p / 8 + 1 < m
    · rw [Nat.mod_eq_of_lt (show p + j < 8 * m by omega), Nat.mod_eq_of_lt h2]; omega
    · have e : p / 8 + 1 = m := by omega
      rw [e, Nat.mod_self, Nat.mod_eq_sub_mod (show 8 * m ≤ p + j by omega), Nat.mod_eq_of_lt (show p + j - 8 * m < 8 * m by omega)]; omega
theorem bitB_all : ∀ c : Fin 256, ∀ t : Fin 8, bitB c.val t.val / 128 = c.val / 2 ^ (7 - t.val) % 2 := by decide +kernel
theorem bitB_is (s : ByteArray) (k t : Nat) (h : t < 8) : bitB (byteAt s k) t / 128 = byteAt s k / 2 ^ (7 - t) % 2 := bitB_all ⟨byteAt s k, byteAt_lt s k⟩ ⟨t, h⟩
/-- bit j of two bytes behind one another, from bit r of the first on -/
def two (a b r j : Nat) : Nat := if r + j < 8 then a / 2 ^ (7 - (r + j)) % 2 else b / 2 ^ (7 - (r + j - 8)) % 2
theorem docR_bit (s : ByteArray) (n : Int) (i j : Nat) (h : 0 < s.size) (hj : j < 8) : bitB (byteAt s (rotP s n i j / 8)) (rotP s n i j % 8) / 128 = two (byteAt s (rotP s n i 0 / 8)) (byteAt s ((rotP s n i 0 / 8 + 1) % s.size)) (rotP s n i 0 % 8) j := by
  rw [rotP_step s n i j h]
  obtain ⟨e1, e2⟩ := rotP_at s.size (rotP s n i 0) j (rotP_lt s n i 0 h) hj
  rw [e1, e2]
  unfold two
  by_cases hh : rotP s n i 0 % 8 + j < 8
  · rw [if_pos hh, if_pos hh, if_pos hh, bitB_is s _ _ (by omega)]
  · rw [if_neg hh, if_neg hh, if_neg hh, bitB_is s _ _ (by omega)]
theorem tA0 : ∀ c : Fin 256, (((((((c.val / 128 % 2) * 2 + c.val / 64 % 2) * 2 + c.val / 32 % 2) * 2 + c.val / 16 % 2) * 2 + c.val / 8 % 2) * 2 + c.val / 4 % 2) * 2 + c.val / 2 % 2) * 2 + c.val / 1 % 2 = c.val % 256 := by decide +kernel
theorem tA1 : ∀ c : Fin 256, ((((((c.val / 64 % 2) * 2 + c.val / 32 % 2) * 2 + c.val / 16 % 2) * 2 + c.val / 8 % 2) * 2 + c.val / 4 % 2) * 2 + c.val / 2 % 2) * 2 + c.val / 1 % 2 = c.val % 128 := by decide +kernel
theorem tB1 : ∀ c : Fin 256, c.val / 128 % 2 = c.val / 128 := by decide +kernel
theorem tA2 : ∀ c : Fin 256, (((((c.val / 32 % 2) * 2 + c.val / 16 % 2) * 2 + c.val / 8 % 2) * 2 + c.val / 4 % 2) * 2 + c.val / 2 % 2) * 2 + c.val / 1 % 2 = c.val % 64 := by decide +kernel
theorem tB2 : ∀ c : Fin 256, (c.val / 128 % 2) * 2 + c.val / 64 % 2 = c.val / 64 := by decide +kernel
theorem tA3 : ∀ c : Fin 256, ((((c.val / 16 % 2) * 2 + c.val / 8 % 2) * 2 + c.val / 4 % 2) * 2 + c.val / 2 % 2) * 2 + c.val / 1 % 2 = c.val % 32 := by decide +kernel
theorem tB3 : ∀ c : Fin 256, ((c.val / 128 % 2) * 2 + c.val / 64 % 2) * 2 + c.val / 32 % 2 = c.val / 32 := by decide +kernel
theorem tA4 : ∀ c : Fin 256, (((c.val / 8 % 2) * 2 + c.val / 4 % 2) * 2 + c.val / 2 % 2) * 2 + c.val / 1 % 2 = c.val % 16 := by decide +kernel
theorem tB4 : ∀ c : Fin 256, (((c.val / 128 % 2) * 2 + c.val / 64 % 2) * 2 + c.val / 32 % 2) * 2 + c.val / 16 % 2 = c.val / 16 := by decide +kernel
theorem tA5 : ∀ c : Fin 256, ((c.val / 4 % 2) * 2 + c.val / 2 % 2) * 2 + c.val / 1 % 2 = c.val % 8 := by decide +kernel
theorem tB5 : ∀ c : Fin 256, ((((c.val / 128 % 2) * 2 + c.val / 64 % 2) * 2 + c.val / 32 % 2) * 2 + c.val / 16 % 2) * 2 + c.val / 8 % 2 = c.val / 8 := by decide +kernel
theorem tA6 : ∀ c : Fin 256, (c.val / 2 % 2) * 2 + c.val / 1 % 2 = c.val % 4 := by decide +kernel
theorem tB6 : ∀ c : Fin 256, (((((c.val / 128 % 2) * 2 + c.val / 64 % 2) * 2 + c.val / 32 % 2) * 2 + c.val / 16 % 2) * 2 + c.val / 8 % 2) * 2 + c.val / 4 % 2 = c.val / 4 := by decide +kernel
theorem tA7 : ∀ c : Fin 256, c.val / 1 % 2 = c.val % 2 := by decide +kernel
theorem tB7 : ∀ c : Fin 256, ((((((c.val / 128 % 2) * 2 + c.val / 64 % 2) * 2 + c.val / 32 % 2) * 2 + c.val / 16 % 2) * 2 + c.val / 8 % 2) * 2 + c.val / 4 % 2) * 2 + c.val / 2 % 2 = c.val / 2 := by decide +kernel
theorem two_sum (a b r : Nat) (ha : a < 256) (hb : b < 256) (hr : r < 8) :
    ((((((((two a b r 0 * 2 + two a b r 1) * 2 + two a b r 2) * 2 + two a b r 3) * 2 + two a b r 4) * 2 + two a b r 5) * 2 + two a b r 6) * 2 + two a b r 7)) = (a * 256 + b) * 2 ^ r / 256 % 256 := by
  obtain rfl | rfl | rfl | rfl | rfl | rfl | rfl | rfl : r = 0 ∨ r = 1 ∨ r = 2 ∨ r = 3 ∨ r = 4 ∨ r = 5 ∨ r = 6 ∨ r = 7 := by omega
  · have hA := tA0 ⟨a, ha⟩
    simp only [two, Nat.reduceAdd, Nat.reduceLT, if_true, if_false, Nat.reduceSub, Nat.reducePow] at *
    have e : (a * 256 + b) * 1 / 256 % 256 = a % 256 * 1 + b / 256 := by omega
    rw [e]
    clear e
    generalize a / 128 % 2 = x0 at *
    generalize a / 64 % 2 = x1 at *
    generalize a / 32 % 2 = x2 at *
    generalize a / 16 % 2 = x3 at *
    generalize a / 8 % 2 = x4 at *
    generalize a / 4 % 2 = x5 at *
    generalize a / 2 % 2 = x6 at *
    generalize a / 1 % 2 = x7 at *
    omega
  · have hA := tA1 ⟨a, ha⟩
    have hB := tB1 ⟨b, hb⟩
    simp only [two, Nat.reduceAdd, Nat.reduceLT, if_true, if_false, Nat.reduceSub, Nat.reducePow] at *
    have e : (a * 256 + b) * 2 / 256 % 256 = a % 128 * 2 + b / 128 := by omega
    rw [e]
    clear e
    generalize a / 64 % 2 = x0 at *
    generalize a / 32 % 2 = x1 at *
    generalize a / 16 % 2 = x2 at *
    generalize a / 8 % 2 = x3 at *
    generalize a / 4 % 2 = x4 at *
    generalize a / 2 % 2 = x5 at *
    generalize a / 1 % 2 = x6 at *
    generalize b / 128 % 2 = y0 at *
    omega
  · have hA := tA2 ⟨a, ha⟩
    have hB := tB2 ⟨b, hb⟩
    simp only [two, Nat.reduceAdd, Nat.reduceLT, if_true, if_false, Nat.reduceSub, Nat.reducePow] at *
    have e : (a * 256 + b) * 4 / 256 % 256 = a % 64 * 4 + b / 64 := by omega
    rw [e]
    clear e
    generalize a / 32 % 2 = x0 at *
    generalize a / 16 % 2 = x1 at *
    generalize a / 8 % 2 = x2 at *
    generalize a / 4 % 2 = x3 at *
    generalize a / 2 % 2 = x4 at *
    generalize a / 1 % 2 = x5 at *
    generalize b / 128 % 2 = y0 at *
    generalize b / 64 % 2 = y1 at *
    omega
  · have hA := tA3 ⟨a, ha⟩
    have hB := tB3 ⟨b, hb⟩
    simp only [two, Nat.reduceAdd, Nat.reduceLT, if_true, if_false, Nat.reduceSub, Nat.reducePow] at *
    have e : (a * 256 + b) * 8 / 256 % 256 = a % 32 * 8 + b / 32 := by omega
    rw [e]
    clear e
    generalize a / 16 % 2 = x0 at *
    generalize a / 8 % 2 = x1 at *
    generalize a / 4 % 2 = x2 at *
    generalize a / 2 % 2 = x3 at *
    generalize a / 1 % 2 = x4 at *
    generalize b / 128 % 2 = y0 at *
    generalize b / 64 % 2 = y1 at *
    generalize b / 32 % 2 = y2 at *
    omega
  · have hA := tA4 ⟨a, ha⟩
    have hB := tB4 ⟨b, hb⟩
    simp only [two, Nat.reduceAdd, Nat.reduceLT, if_true, if_false, Nat.reduceSub, Nat.reducePow] at *
    have e : (a * 256 + b) * 16 / 256 % 256 = a % 16 * 16 + b / 16 := by omega
    rw [e]
    clear e
    generalize a / 8 % 2 = x0 at *
    generalize a / 4 % 2 = x1 at *
    generalize a / 2 % 2 = x2 at *
    generalize a / 1 % 2 = x3 at *
    generalize b / 128 % 2 = y0 at *
    generalize b / 64 % 2 = y1 at *
    generalize b / 32 % 2 = y2 at *
    generalize b / 16 % 2 = y3 at *
    omega
  · have hA := tA5 ⟨a, ha⟩
    have hB := tB5 ⟨b, hb⟩
    simp only [two, Nat.reduceAdd, Nat.reduceLT, if_true, if_false, Nat.reduceSub, Nat.reducePow] at *
    have e : (a * 256 + b) * 32 / 256 % 256 = a % 8 * 32 + b / 8 := by omega
    rw [e]
    clear e
    generalize a / 4 % 2 = x0 at *
    generalize a / 2 % 2 = x1 at *
    generalize a / 1 % 2 = x2 at *
    generalize b / 128 % 2 = y0 at *
    generalize b / 64 % 2 = y1 at *
    generalize b / 32 % 2 = y2 at *
    generalize b / 16 % 2 = y3 at *
    generalize b / 8 % 2 = y4 at *
    omega
  · have hA := tA6 ⟨a, ha⟩
    have hB := tB6 ⟨b, hb⟩
    simp only [two, Nat.reduceAdd, Nat.reduceLT, if_true, if_false, Nat.reduceSub, Nat.reducePow] at *
    have e : (a * 256 + b) * 64 / 256 % 256 = a % 4 * 64 + b / 4 := by omega
    rw [e]
    clear e
    generalize a / 2 % 2 = x0 at *
    generalize a / 1 % 2 = x1 at *
    generalize b / 128 % 2 = y0 at *
    generalize b / 64 % 2 = y1 at *
    generalize b / 32 % 2 = y2 at *
    generalize b / 16 % 2 = y3 at *
    generalize b / 8 % 2 = y4 at *
    generalize b / 4 % 2 = y5 at *
    omega
  · have hA := tA7 ⟨a, ha⟩
    have hB := tB7 ⟨b, hb⟩
    simp only [two, Nat.reduceAdd, Nat.reduceLT, if_true, if_false, Nat.reduceSub, Nat.reducePow] at *
    have e : (a * 256 + b) * 128 / 256 % 256 = a % 2 * 128 + b / 2 := by omega
    rw [e]
    clear e
    generalize a / 1 % 2 = x0 at *
    generalize b / 128 % 2 = y0 at *
    generalize b / 64 % 2 = y1 at *
    generalize b / 32 % 2 = y2 at *
    generalize b / 16 % 2 = y3 at *
    generalize b / 8 % 2 = y4 at *
    generalize b / 4 % 2 = y5 at *
    generalize b / 2 % 2 = y6 at *
    omega
theorem docR_8 (s : ByteArray) (n : Int) (i : Nat) (h : 0 < s.size) : docR s n i 8 = (byteAt s (rotP s n i 0 / 8) * 256 + byteAt s ((rotP s n i 0 / 8 + 1) % s.size)) * 2 ^ (rotP s n i 0 % 8) / 256 % 256 := by
  rw [← two_sum _ _ _ (byteAt_lt _ _) (byteAt_lt _ _) (Nat.mod_lt _ (by omega))]
  have d := fun j hj => docR_bit s n i j h hj
  simp only [docR, d 0 (by omega), d 1 (by omega), d 2 (by omega), d 3 (by omega), d 4 (by omega), d 5 (by omega), d 6 (by omega), d 7 (by omega)]
  omega

theorem or_shl8 (a b : Nat) (ha : a < 256) (hb : b < 256) : bits .or .u64 ((a : Int) * 256) (b : Int) = (a : Int) * 256 + (b : Int) := by
  have h := u64_or_nat (a * 256) b (by omega) (by omega)
  rw [nat_join 8 _ _ (Nat.mul_mod_left _ _) hb] at h
  simpa using h
theorem out_byte (a b r : Nat) (ha : a < 256) (hb : b < 256) (hr : r < 8) : IntKind.u64.wrap ((((a : Int) * 256 + (b : Int)) * 2 ^ r)) / 256 % 256 = (((a * 256 + b) * 2 ^ r / 256 % 256 : Nat) : Int) := by
  rw [IntKind.wrap_u64]
  obtain rfl | rfl | rfl | rfl | rfl | rfl | rfl | rfl : r = 0 ∨ r = 1 ∨ r = 2 ∨ r = 3 ∨ r = 4 ∨ r = 5 ∨ r = 6 ∨ r = 7 := by omega
  all_goals
    simp only [Int.reducePow, Nat.reducePow]
    omega

set_option maxHeartbeats 800000 in
theorem rotate_any (s : ByteArray) (n : Int) (h0 : 0 < s.size) (hs : s.size ≤ 1000) (w : World) :
    Calls Try.prog 21 #[.string s, .int .i64 n] w fun e w' => e = .returned (.string (rotS s n s.size)) ∧ Below w.heap.size w w' := by
  obtain ⟨hr1, hr2⟩ := tmod_bd n (8 * (s.size : Int)) (by omega)
  have HE := Lib.hid (tmod_emod n (8 * (s.size : Int)))
  generalize hr : n.tmod (8 * (s.size : Int)) = r at *
  have hz : (8 * (s.size : Int) == 0) = false := by rw [beq_eq_false_iff_ne]; omega
  have hne : s.toList.isEmpty = false := by
    have e : s.toList.length = s.size := by rw [ByteArray.toList_eq]; rfl
    cases hh : s.toList with
    | nil => rw [hh] at e; simp only [List.length_nil] at e; omega
    | cons => rfl
  have hmk := fun w => run_make_row' (P := Try.prog) 45 5 (.int .u8 0) 1 Try.underlying45 (by kernel_rfl) rfl .i64 .i64 s.size (by omega) (by omega) w
  obtain ⟨q, hq0, hq1, hqm, hqq⟩ : ∃ q : Int, 0 ≤ q ∧ q < 8 * (s.size : Int) ∧ Hid (∀ i : Nat, (8 * (i : Int) + q) % (8 * (s.size : Int)) = ((rotP s n i 0 : Nat) : Int)) ∧ ((r < 0 ∧ r + 8 * (s.size : Int) = q) ∨ (0 ≤ r ∧ r = q)) := by
    have key : ∀ q, q % (8 * (s.size : Int)) = n % (8 * (s.size : Int)) → ∀ i : Nat, (8 * (i : Int) + q) % (8 * (s.size : Int)) = ((rotP s n i 0 : Nat) : Int) := fun q hq i => by
      rw [rotP_is s n i 0 h0, Int.add_emod, hq, ← Int.add_emod]; simp
    by_cases hneg : r < 0
    · exact ⟨r + 8 * (s.size : Int), by omega, by omega, Lib.hid (key _ (by rw [Int.add_emod_right]; exact HE.out)), .inl ⟨hneg, rfl⟩⟩
    · exact ⟨r, by omega, by omega, Lib.hid (key _ HE.out), .inr ⟨by omega, rfl⟩⟩
  clear HE
  rcases hqq with ⟨hneg, hqe⟩ | ⟨hneg, rfl⟩
  all_goals
    go_enter Try.func21, Try.ntmps21
    go_wp2
    go_loopw [29] (fun i wr => ∃ k : Nat, k ≤ s.size ∧ i = .int .i64 k ∧ Below w.heap.size w wr ∧ Buf wr w.heap.size (rotsZ s n k)) (fun i _ => s.size - (intOf i).toNat)
    case atStart =>
      refine ⟨0, Nat.zero_le _, rfl, (Below.refl _ _).alloc (Nat.le_refl _) _, ?_⟩
      have := buf_made w s.size
      simpa [rotsZ, rots] using this
    case round =>
      obtain ⟨k, hk, rfl, hB, hbuf⟩ := hrel
      have hBH := Lib.hid hB
      clear hB
      have hlen := rotsZ_len s n k hk
      by_cases hlt : k < s.size
      · have hg := hbuf.1
        have hfz := (hbuf.2 k (by omega)).2
        obtain ⟨c0, hcell⟩ : ∃ v, wr.cell? ⟨w.heap.size, k, none⟩ = some v := ⟨_, (hbuf.2 k (by omega)).1⟩
        have hbufH := Lib.hid hbuf
        have hp := hqm.out k
        have hp1 := rotP_lt s n k 0 h0
        have H8 := Lib.hid (docR_8 s n k h0)
        generalize rotP s n k 0 = p at *
        have q1 : IntKind.i64.wrap ((p : Int) / 8) = ((p / 8 : Nat) : Int) := by rw [IntWalk.i64_in _ (by omega)]; rfl
        have q2 : IntKind.i64.wrap (((p / 8 : Nat) : Int) + 1) = ((p / 8 : Nat) : Int) + 1 := by rw [IntWalk.i64_in _ (by omega)]
        have q4 : (((p / 8 : Nat) : Int) + 1) % (s.size : Int) = (((p / 8 + 1) % s.size : Nat) : Int) := rfl
        have q3 : (((p / 8 : Nat) : Int) + 1).tmod (s.size : Int) = (((p / 8 + 1) % s.size : Nat) : Int) := rfl
        have hp3 : (p / 8 + 1) % s.size < s.size := Nat.mod_lt _ h0
        have hp4 : p / 8 < s.size := by omega
        generalize (p / 8 + 1) % s.size = p2 at *
        generalize p / 8 = p1 at *
        have hb1 := byteAt_eq s p1 hp4
        have hb2 := byteAt_eq s p2 hp3
        have hb3 := byteAt_lt s p1
        have hb4 := byteAt_lt s p2
        generalize byteAt s p1 = a at *
        generalize byteAt s p2 = b at *
        have hor := or_shl8 a b hb3 hb4
        have i1 : (0 : Int) ≤ (p1 : Int) := by omega
        have i2 : (p1 : Int) < (s.size : Int) := by omega
        have i3 : (0 : Int) ≤ (p2 : Int) := by omega
        have i4 : (p2 : Int) < (s.size : Int) := by omega
        have i5 : p % 8 < 8 := by omega
        clear hbuf hmk
        go_wp2
        go_quiet (fail)
        go_wp2
        go_roundw
        case rel =>
          refine ⟨k + 1, by omega, by go_num, ?_, ?_⟩
          · exact (below_drewN hBH.out nq).setCell (p := ⟨w.heap.size, k, none⟩) (Nat.le_refl _) _
          · have := (hbufH.out.drewN nq).set_ k (UInt8.ofNat (docR s n k 8)) (by rw [hlen]; exact hlt)
            rw [rotsZ_set s n k hlt] at this
            have e : ((UInt8.ofNat (docR s n k 8)).toNat : Int) = (((a * 256 + b) * 2 ^ (p % 8) / 256 % 256 : Nat) : Int) := by
              rw [UInt8.toNat_ofNat', H8.out]; simp
            rw [e] at this
            rw [← out_byte a b (p % 8) hb3 hb4 i5] at this
            exact this
        case measure => simp [intOf]; omega
      · obtain rfl : k = s.size := by omega
        have hl := rotsZ_len s n s.size (Nat.le_refl _)
        have hz2 : rotsZ s n s.size = rots s n s.size := by simp [rotsZ]
        have hback : (convert 45 9 (.slice (some ⟨w.heap.size, 0, none⟩) s.size s.size)).run Try.prog wr = .ok (.string (rotS s n s.size)) wr := by
          have := run_convert_bytes_back (P := Try.prog) wr 45 9 5 ⟨w.heap.size, 0, none⟩ s.size (rotsZ s n s.size) Try.underlying45 Try.underlying5 Try.underlying9
            (fun j hj => by
              have h := (hbuf.2 j hj).1
              rw [Addr.add_mid, Nat.zero_add]; exact h)
          rw [hl, hz2] at this
          exact this
        clear hl hbuf hlen hmk
        go_wp2
        go_ret
        exact ⟨rfl, hBH.out⟩

/-! ### the law -/
theorem turn_all : ∀ c : Fin 256, docB (UInt8.ofNat c.val) = turnB (UInt8.ofNat c.val) := by decide +kernel
theorem turn_eq (b : UInt8) : docB b = turnB b := by
  have := turn_all ⟨b.toNat, UInt8.toNat_lt b⟩
  simpa using this
theorem turn_doc (s : ByteArray) (hs : s.size ≤ 1000) (w : World) :
    Calls Try.prog 19 #[.string s] w fun e w' => e = .returned (.string (firsts docB s s.size)) ∧ Below w.heap.size w w' :=
  (turn_any s hs w).mono fun e w' ⟨he, hw⟩ => ⟨by
    have e1 : s.data.toList.length = s.size := rfl
    rw [he]; unfold firsts
    rw [List.take_of_length_le (by omega), show docB = turnB from funext turn_eq], hw⟩
theorem count_doc (s : ByteArray) (hs : s.size ≤ 1000) (w : World) :
    Calls Try.prog 18 #[.string s] w fun e w' => e = .returned (.int .i64 (tot s s.size : Nat)) ∧ w = w' :=
  (docCount s hs w).mono fun e w' ⟨he, hw⟩ => ⟨by rw [he, cnt_tot], hw⟩
theorem empty_size (s : ByteArray) (h : s.size = 0) : s = ⟨#[]⟩ := by
  apply ByteArray.ext
  exact Array.eq_empty_of_size_eq_zero h
theorem rotate_empty (n : Int) (w : World) :
    Calls Try.prog 21 #[.string ⟨#[]⟩, .int .i64 n] w fun e w' => e = .returned (.string ⟨#[]⟩) ∧ w = w' := by
  go_enter Try.func21, Try.ntmps21
  go_wp2
  go_ret
  exact ⟨rfl, rfl⟩
theorem docRotate_empty (n : Int) (w : World) :
    Calls Try.prog 22 #[.string ⟨#[]⟩, .int .i64 n] w fun e w' => e = .returned (.string ⟨#[]⟩) ∧ w = w' := by
  go_enter Try.func22, Try.ntmps22
  go_wp2
  go_ret
  exact ⟨rfl, rfl⟩

set_option maxHeartbeats 800000 in
theorem bitsTurns_walk (a0 : ByteArray) (a1 : Int) (w0 : a0.size ≤ maxLen) (w : World) :
    Calls Try.prog 5 #[.string a0, .int .i64 a1] w fun e w' => e = .returned (.bool true) ∧ Below w.heap.size w w' := by
  unfold maxLen at w0
  by_cases hs : a0.size ≤ 60
  · by_cases h0 : 0 < a0.size
    · go_enter Try.func5, Try.ntmps5
      go_wp2_with fail
      refine (count_any a0 (by omega) _).mono ?_; rintro e w' ⟨rfl, rfl⟩
      go_wp2_with fail
      refine (count_doc a0 (by omega) _).mono ?_; rintro e w' ⟨rfl, rfl⟩
      go_wp2_with fail
      refine (turn_doc a0 (by omega) _).mono ?_; rintro e w1 ⟨rfl, h1⟩
      go_wp2_with fail
      refine (docTurn a0 (by omega) _).mono ?_; rintro e w2 ⟨rfl, h2⟩
      go_wp2_with fail
      refine (rotate_any a0 a1 h0 (by omega) _).mono ?_; rintro e w3 ⟨rfl, h3⟩
      go_wp2_with fail
      refine (docRotate a0 a1 h0 (by omega) _).mono ?_; rintro e w4 ⟨rfl, h4⟩
      go_wp2_with fail
      go_ret
      exact ⟨rfl, h1.trans ((h2.mono h1.size).trans ((h3.mono (Nat.le_trans h1.size h2.size)).trans (h4.mono (Nat.le_trans h1.size (Nat.le_trans h2.size h3.size)))))⟩
    · obtain rfl := empty_size a0 (by omega)
      clear h0
      go_enter Try.func5, Try.ntmps5
      go_wp2_with fail
      refine (count_any ⟨#[]⟩ (by omega) _).mono ?_; rintro e w' ⟨rfl, rfl⟩
      go_wp2_with fail
      refine (count_doc ⟨#[]⟩ (by omega) _).mono ?_; rintro e w' ⟨rfl, rfl⟩
      go_wp2_with fail
      refine (turn_doc ⟨#[]⟩ (by omega) _).mono ?_; rintro e w1 ⟨rfl, h1⟩
      go_wp2_with fail
      refine (docTurn ⟨#[]⟩ (by omega) _).mono ?_; rintro e w2 ⟨rfl, h2⟩
      go_wp2_with fail
      refine (rotate_empty a1 _).mono ?_; rintro e w3 ⟨rfl, rfl⟩
      go_wp2_with fail
      refine (docRotate_empty a1 _).mono ?_; rintro e w4 ⟨rfl, rfl⟩
      go_wp2_with fail
      go_ret
      exact ⟨rfl, h1.trans (h2.mono h1.size)⟩
  · go_enter Try.func5, Try.ntmps5
    go_wp2_with fail
    go_ret
    exact ⟨rfl, Below.refl _ _⟩
end Go.Proofs.Ytebjccenlfhilaa.Bits
