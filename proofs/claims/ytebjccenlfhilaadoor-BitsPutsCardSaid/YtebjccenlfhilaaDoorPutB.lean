/-
  PROVED HERE: contracts of bits.Put, over every input within the statement's bounds. Conditions: as each theorem states.
-/
import Derived.Test.YtebjccenlfhilaaDoorPutP
import Derived.Deep.OwnRows
import Derived.Deep.MidRow
import Derived.StillTailTactics
namespace Go.Proofs.YtebjccenlfhilaaDoor.Bit
open Go.RowKit

/-- The text's bytes behind k bits of the number x. -/
def frm (n o k : Nat) : Nat := if o = 1 then n - 1 - k else k
def vx (x n o k : Nat) : Nat := x / 2 ^ frm n o k % 2
theorem vx_lt (x n o k : Nat) : vx x n o k < 2 := Nat.mod_lt _ (by omega)
def lst (s : ByteArray) (x n o a k : Nat) : List UInt8 := (List.range s.size).map fun i => UInt8.ofNat (pb (byteAt s) (vx x n o) o a k i)
theorem lst_len (s : ByteArray) (x n o a k : Nat) : (lst s x n o a k).length = s.size := by simp [lst]
theorem lst_zero (s : ByteArray) (x n o a : Nat) : lst s x n o a 0 = s.data.toList := by
  apply List.ext_getElem
  · simp [lst]
  · intro i h1 h2
    have hi : i < s.size := by simpa [lst] using h1
    have := byteAt_eq s i hi
    simp only [lst, List.getElem_map, List.getElem_range, pb]
    rw [← this]
    simp
    rfl
theorem lst_set (s : ByteArray) (x n o a k : Nat) (_ : (a + k) / 8 < s.size) : (lst s x n o a k).set ((a + k) / 8) (UInt8.ofNat (setB (pb (byteAt s) (vx x n o) o a k ((a + k) / 8)) (bp o (a + k)) (vx x n o k))) = lst s x n o a (k + 1) := by
  apply List.ext_getElem
  · simp [lst_len]
  · intro i h1 h2
    rw [List.getElem_set]
    simp only [lst, List.getElem_map, List.getElem_range, pb]
    by_cases e : (a + k) / 8 = i
    · rw [if_pos e, if_pos e, e]
    · rw [if_neg e, if_neg e]
theorem lst_at (s : ByteArray) (x n o a k i : Nat) (h : i < (lst s x n o a k).length) : (lst s x n o a k)[i].toNat = pb (byteAt s) (vx x n o) o a k i := by
  have := pb_lt (byteAt s) (vx x n o) o a (byteAt_lt s) (vx_lt x n o) k i
  simp only [lst, List.getElem_map, List.getElem_range]
  rw [UInt8.toNat_ofNat']; omega

theorem setB_bits_all : ∀ (c : Fin 256) (b : Fin 8) (y : Fin 2), bits .or .u8 (bits .andNot .u8 ((c.val : Nat) : Int) (2 ^ b.val % 256)) (((y.val : Nat) : Int) % 256 * 2 ^ b.val % 256) = ((setB c.val b.val y.val : Nat) : Int) := by decide +kernel
theorem setB_bits (c b d : Nat) (hc : c < 256) (hb : b ≤ 7) (hd : d < 18446744073709551616) : bits .or .u8 (bits .andNot .u8 (c : Int) (2 ^ b % 256)) (bits .and .u64 (d : Int) 1 % 256 * 2 ^ b % 256) = (((UInt8.ofNat (setB c b (d % 2))).toNat : Nat) : Int) := by
  have h := u64_and_nat d 1 hd (by omega)
  rw [Nat.and_one_is_mod] at h
  rw [show bits .and .u64 (d : Int) 1 = ((d % 2 : Nat) : Int) from h]
  have h2 := setB_bits_all ⟨c, hc⟩ ⟨b, by omega⟩ ⟨d % 2, by omega⟩
  have h3 := setB_lt c b (d % 2) hc (by omega) (by omega)
  refine h2.trans ?_
  rw [UInt8.toNat_ofNat']
  simp only
  omega

set_option maxRecDepth 100000 in
set_option maxHeartbeats 800000 in
theorem put_yes (s : ByteArray) (a n o x : Nat) (ho : o ≤ 1) (h : lie s.size a n) (hs : s.size ≤ 1000) (hx : x < 18446744073709551616) (W : World) :
    Calls Tryd.prog 28 #[.string s, .int .i64 a, .int .i64 n, .int .i64 o, .int .u64 x] W fun e w' => e = .returned (.tuple #[.string ⟨(lst s x n o a n).toArray⟩, .nilIface]) ∧ Below W.heap.size W w' := by
  have CG := Lib.hid (fun W => get_yes s a n o ho h hs W)
  have h1 : n ≤ 64 ∧ a + n ≤ 8 * s.size := by unfold lie at h; omega
  clear h
  have hconv := run_bytes_of_string (P := Tryd.prog) W 9 81 5 s Tryd.underlying9 Tryd.underlying81 Tryd.underlying5
  generalize hcap : grownCap W s.size 0 5 = cap at hconv
  have hC := Lib.hid (bytesRow_at s cap)
  generalize bytesRow s cap = C at hconv hC
  clear hcap
  generalize V s o a n = vv at CG
  rcases (show o = 0 ∨ o = 1 by omega) with rfl | rfl
  · go_enter Tryd.func28, Tryd.ntmps28
    go_wp2_with fail
    refine (CG.out _).mono ?_; rintro e w' ⟨rfl, rfl⟩
    go_wp2_with fail
    go_loopw [33] (fun i wr => ∃ k : Nat, k ≤ n ∧ i = .int .i64 k ∧ Below W.heap.size W wr ∧ Buf wr W.heap.size (lst s x n 0 a k)) (fun i _ => n - (intOf i).toNat)
    case atStart =>
      refine ⟨0, Nat.zero_le _, rfl, ((Below.refl _ _).alloc (Nat.le_refl _) _).drew, ?_⟩
      rw [lst_zero]
      refine ⟨by simp, fun j hj => ⟨?_, ?_⟩⟩
      · have hj' : j < s.data.size := hj
        have := hC.out j hj'
        rw [World.cell?_drew, World.cell?_alloc_mark, this]
        simp
      · rw [World.frozen?_drew, World.frozen?_alloc_mark]
        have hj' : j < s.data.size := hj
        have := hC.out j hj'
        have hlt : j < C.size := by
          rcases Nat.lt_or_ge j C.size with h | h
          · exact h
          · rw [Array.getElem?_eq_none h] at this; cases this
        simp; omega
    case round =>
      obtain ⟨k, hk, rfl, hB, hbuf⟩ := hrel
      by_cases hlt : k < n
      · have CB := Lib.hid (fun W => bit_any (a + k) 0 (by omega) (by omega) W)
        have hp : (a + k) / 8 < s.size := by omega
        have HS := Lib.hid (lst_set s x n 0 a k hp)
        have hfz := (hbuf.2 ((a + k) / 8) (by rw [lst_len]; exact hp)).2
        have hcell := (hbuf.2 ((a + k) / 8) (by rw [lst_len]; exact hp)).1
        have hlen := Lib.hid (lst_len s x n 0 a k)
        rw [lst_at] at hcell
        have hc := pb_lt (byteAt s) (vx x n 0) 0 a (byteAt_lt s) (vx_lt x n 0) k ((a + k) / 8)
        have hBH := Lib.hid hB
        have hbufH := Lib.hid hbuf
        clear hB hbuf hconv
        have hb7 := bp_le 0 (a + k)
        have hd : x / 2 ^ frm n 0 k < 18446744073709551616 := Nat.lt_of_le_of_lt (Nat.div_le_self _ _) hx
        have HV := Lib.hid (setB_bits (pb (byteAt s) (vx x n 0) 0 a k ((a + k) / 8)) (bp 0 (a + k)) (x / 2 ^ frm n 0 k) hc hb7 hd)
        have e5 : ((x : Int) / 2 ^ k) = ((x / 2 ^ frm n 0 k : Nat) : Int) := by simp [frm]
        have ev : vx x n 0 k = x / 2 ^ frm n 0 k % 2 := rfl
        rw [ev] at HS
        clear ev
        generalize x / 2 ^ frm n 0 k = d at *
        generalize pb (byteAt s) (vx x n 0) 0 a k ((a + k) / 8) = c at *
        generalize (a + k) / 8 = p at *
        generalize bp 0 (a + k) = b at *
        go_wp2_with fail
        refine (CB.out _).mono ?_; rintro e w' ⟨rfl, rfl⟩
        have i1 : (0 : Int) ≤ (p : Int) := by omega
        have i2 : (p : Int) < (s.size : Int) := by omega
        go_wp2_with fail
        go_still_tail 18, (by kernel_rfl)
        go_wp2_with fail
        go_roundw
        case rel =>
          refine ⟨k + 1, by omega, by go_num, Below.drew ((hBH.out).setCell (p := ⟨W.heap.size, p, none⟩) (Nat.le_refl _) _), ?_⟩
          have := hbufH.out.set_ p (UInt8.ofNat (setB c b (d % 2))) (by rw [hlen.out]; exact hp)
          rw [HS.out] at this
          rw [HV.out]
          exact this
        case measure => simp [intOf]; omega
      · obtain rfl : k = n := by omega
        have hback : (convert 81 9 (.slice (some ⟨W.heap.size, 0, none⟩) s.size cap)).run Tryd.prog wr = .ok (.string ⟨(lst s x k 0 a k).toArray⟩) wr := by
          have := run_convert_bytes_back (P := Tryd.prog) wr 81 9 5 ⟨W.heap.size, 0, none⟩ cap (lst s x k 0 a k) Tryd.underlying81 Tryd.underlying5 Tryd.underlying9
            (fun j hj => by
              have h := (hbuf.2 j hj).1
              rw [Addr.add_mid, Nat.zero_add]; exact h)
          rw [lst_len] at this
          exact this
        have hBH := Lib.hid hB
        clear hbuf hB hconv
        go_wp2_with fail
        go_ret2
        exact ⟨rfl, hBH.out⟩
  · go_enter Tryd.func28, Tryd.ntmps28
    go_wp2_with fail
    refine (CG.out _).mono ?_; rintro e w' ⟨rfl, rfl⟩
    go_wp2_with fail
    go_loopw [33] (fun i wr => ∃ k : Nat, k ≤ n ∧ i = .int .i64 k ∧ Below W.heap.size W wr ∧ Buf wr W.heap.size (lst s x n 1 a k)) (fun i _ => n - (intOf i).toNat)
    case atStart =>
      refine ⟨0, Nat.zero_le _, rfl, ((Below.refl _ _).alloc (Nat.le_refl _) _).drew, ?_⟩
      rw [lst_zero]
      refine ⟨by simp, fun j hj => ⟨?_, ?_⟩⟩
      · have hj' : j < s.data.size := hj
        have := hC.out j hj'
        rw [World.cell?_drew, World.cell?_alloc_mark, this]
        simp
      · rw [World.frozen?_drew, World.frozen?_alloc_mark]
        have hj' : j < s.data.size := hj
        have := hC.out j hj'
        have hlt : j < C.size := by
          rcases Nat.lt_or_ge j C.size with h | h
          · exact h
          · rw [Array.getElem?_eq_none h] at this; cases this
        simp; omega
    case round =>
      obtain ⟨k, hk, rfl, hB, hbuf⟩ := hrel
      by_cases hlt : k < n
      · have CB := Lib.hid (fun W => bit_any (a + k) 1 (by omega) (by omega) W)
        have hp : (a + k) / 8 < s.size := by omega
        have HS := Lib.hid (lst_set s x n 1 a k hp)
        have hfz := (hbuf.2 ((a + k) / 8) (by rw [lst_len]; exact hp)).2
        have hcell := (hbuf.2 ((a + k) / 8) (by rw [lst_len]; exact hp)).1
        have hlen := Lib.hid (lst_len s x n 1 a k)
        rw [lst_at] at hcell
        have hc := pb_lt (byteAt s) (vx x n 1) 1 a (byteAt_lt s) (vx_lt x n 1) k ((a + k) / 8)
        have hBH := Lib.hid hB
        have hbufH := Lib.hid hbuf
        clear hB hbuf hconv
        have hb7 := bp_le 1 (a + k)
        have hd : x / 2 ^ frm n 1 k < 18446744073709551616 := Nat.lt_of_le_of_lt (Nat.div_le_self _ _) hx
        have HV := Lib.hid (setB_bits (pb (byteAt s) (vx x n 1) 1 a k ((a + k) / 8)) (bp 1 (a + k)) (x / 2 ^ frm n 1 k) hc hb7 hd)
        have e5 : ((x : Int) / 2 ^ (n - 1 - k)) = ((x / 2 ^ frm n 1 k : Nat) : Int) := by simp [frm]
        have ev : vx x n 1 k = x / 2 ^ frm n 1 k % 2 := rfl
        rw [ev] at HS
        clear ev
        generalize x / 2 ^ frm n 1 k = d at *
        generalize pb (byteAt s) (vx x n 1) 1 a k ((a + k) / 8) = c at *
        generalize (a + k) / 8 = p at *
        generalize bp 1 (a + k) = b at *
        go_wp2_with fail
        refine (CB.out _).mono ?_; rintro e w' ⟨rfl, rfl⟩
        have i1 : (0 : Int) ≤ (p : Int) := by omega
        have i2 : (p : Int) < (s.size : Int) := by omega
        go_wp2_with fail
        go_still_tail 18, (by kernel_rfl)
        go_wp2_with fail
        go_roundw
        case rel =>
          refine ⟨k + 1, by omega, by go_num, Below.drew ((hBH.out).setCell (p := ⟨W.heap.size, p, none⟩) (Nat.le_refl _) _), ?_⟩
          have := hbufH.out.set_ p (UInt8.ofNat (setB c b (d % 2))) (by rw [hlen.out]; exact hp)
          rw [HS.out] at this
          rw [HV.out]
          exact this
        case measure => simp [intOf]; omega
      · obtain rfl : k = n := by omega
        have hback : (convert 81 9 (.slice (some ⟨W.heap.size, 0, none⟩) s.size cap)).run Tryd.prog wr = .ok (.string ⟨(lst s x k 1 a k).toArray⟩) wr := by
          have := run_convert_bytes_back (P := Tryd.prog) wr 81 9 5 ⟨W.heap.size, 0, none⟩ cap (lst s x k 1 a k) Tryd.underlying81 Tryd.underlying5 Tryd.underlying9
            (fun j hj => by
              have h := (hbuf.2 j hj).1
              rw [Addr.add_mid, Nat.zero_add]; exact h)
          rw [lst_len] at this
          exact this
        have hBH := Lib.hid hB
        clear hbuf hB hconv
        go_wp2_with fail
        go_ret2
        exact ⟨rfl, hBH.out⟩
end Go.Proofs.YtebjccenlfhilaaDoor.Bit
