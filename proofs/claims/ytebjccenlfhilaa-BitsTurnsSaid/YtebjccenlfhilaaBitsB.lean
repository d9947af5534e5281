/-
  PROVED HERE: contracts of bits.Turn, bits.Rotate and of the document's BitsTurn, BitsRotate, and that the law BitsTurns returns true. Conditions: as each theorem states.
-/
import Derived.Test.YtebjccenlfhilaaRows
import Derived.Test.YtebjccenlfhilaaBitsA
import Derived.StillTailTactics
import Derived.RegionTactic
import Derived.ChangeAlike
import Derived.Deep.DeepCutAuto
import Derived.Deep.MidRow
namespace Go.Proofs.Ytebjccenlfhilaa.Bits
open Go.RowKit

def t1 (n : Int) : Int := bits .or .u8 (n / 16) (IntKind.u8.wrap (n * 16))
def t2 (n : Int) : Int := bits .or .u8 (bits .and .u8 (n / 4) 51) (IntKind.u8.wrap (bits .and .u8 n 51 * 4))
def t3 (n : Int) : Int := bits .or .u8 (bits .and .u8 (n / 2) 85) (IntKind.u8.wrap (bits .and .u8 n 85 * 2))
def b8 (f : Int → Int) (b : UInt8) : UInt8 := UInt8.ofNat (f (b.toNat : Int)).toNat
theorem t1_all : ∀ c : Fin 256, ((b8 t1 (UInt8.ofNat c.val)).toNat : Int) = t1 (c.val : Int) := by decide +kernel
theorem t2_all : ∀ c : Fin 256, ((b8 t2 (UInt8.ofNat c.val)).toNat : Int) = t2 (c.val : Int) := by decide +kernel
theorem t3_all : ∀ c : Fin 256, ((b8 t3 (UInt8.ofNat c.val)).toNat : Int) = t3 (c.val : Int) := by decide +kernel
theorem of_all (f : Int → Int) (h : ∀ c : Fin 256, ((b8 f (UInt8.ofNat c.val)).toNat : Int) = f (c.val : Int)) (b : UInt8) : ((b8 f b).toNat : Int) = f (b.toNat : Int) := by
  have := h ⟨b.toNat, UInt8.toNat_lt b⟩
  simpa using this
def turnB (b : UInt8) : UInt8 := b8 t3 (b8 t2 (b8 t1 b))

/-- The first k bytes turned, the others as they are. -/
def part (f : UInt8 → UInt8) (s : ByteArray) (k : Nat) : List UInt8 := (s.data.toList.take k).map f ++ s.data.toList.drop k
theorem part_len (f : UInt8 → UInt8) (s : ByteArray) (k : Nat) (h : k ≤ s.size) : (part f s k).length = s.size := by
  have e : s.data.toList.length = s.size := rfl
  unfold part; simp only [List.length_append, List.length_map, List.length_take, List.length_drop]; omega
theorem part_at (f : UInt8 → UInt8) (s : ByteArray) (k : Nat) (h : k < s.size) : (part f s k)[k]'(by rw [part_len f s k (by omega)]; exact h) = s.data[k] := by
  have e : s.data.toList.length = s.size := rfl
  unfold part
  rw [List.getElem_append_right (by simp; omega)]
  simp [Nat.min_eq_left (show k ≤ s.size by omega)]
theorem part_cell {w : World} {g k : Nat} {s : ByteArray} {f : UInt8 → UInt8} (h : Buf w g (part f s k)) (hk : k < s.size) : w.cell? ⟨g, k, none⟩ = some (.int .u8 (byteAt s k : Nat)) ∧ w.frozen? ⟨g, k, none⟩ = false := by
  have := h.2 k (by rw [part_len f s k (by omega)]; exact hk)
  rw [part_at f s k hk] at this
  rw [this.1]
  exact ⟨by rw [← byteAt_eq s k hk]; rfl, this.2⟩

theorem part_set (f : UInt8 → UInt8) (s : ByteArray) (k : Nat) (h : k < s.size) : (part f s k).set k (f s.data[k]) = part f s (k + 1) := by
  have e : s.data.toList.length = s.size := rfl
  have hd : s.data.toList.drop k = s.data[k] :: s.data.toList.drop (k + 1) := by rw [List.drop_eq_getElem_cons (by omega)]; simp
  have ht : s.data.toList.take (k + 1) = s.data.toList.take k ++ [s.data[k]] := by rw [List.take_succ_eq_append_getElem (by omega)]; simp
  unfold part
  rw [ht, hd, List.set_append_right _ _ (by simp; omega)]
  simp [Nat.min_eq_left (show k ≤ s.size by omega)]

/-- What the turning of byte k leaves on its way: the byte v stands there. -/
def Mid (w wx : World) (s : ByteArray) (k : Nat) (v : UInt8) : Prop := Below w.heap.size w wx ∧ Buf wx w.heap.size ((part turnB s k).set k v)
theorem Mid.at_ {w wx : World} {s : ByteArray} {k : Nat} {v : UInt8} (h : Mid w wx s k v) (hk : k < s.size) : wx.cell? ⟨w.heap.size, k, none⟩ = some (.int .u8 (v.toNat : Nat)) ∧ wx.frozen? ⟨w.heap.size, k, none⟩ = false := by
  have := h.2.2 k (by rw [List.length_set, part_len turnB s k (by omega)]; exact hk)
  simpa using this
theorem Mid.put {w wx : World} {s : ByteArray} {k : Nat} {v : UInt8} (h : Mid w wx s k v) (hk : k < s.size) (f : Int → Int) (hf : ∀ c : Fin 256, ((b8 f (UInt8.ofNat c.val)).toNat : Int) = f (c.val : Int)) (n : Int) (hn : n = f (v.toNat : Int)) (m : Nat) :
    Mid w ((wx.setCell ⟨w.heap.size, k, none⟩ (.int .u8 n)).drewN m) s k (b8 f v) := by
  subst hn
  rw [← of_all f hf v]
  refine ⟨below_drewN (h.1.setCell (p := ⟨w.heap.size, k, none⟩) (Nat.le_refl _) _) m, ?_⟩
  have := (h.2.set_ k (b8 f v) (by rw [List.length_set, part_len turnB s k (by omega)]; exact hk)).drewN m
  rwa [List.set_set] at this

set_option maxHeartbeats 800000 in
theorem turn_any (s : ByteArray) (hs : s.size ≤ 1000) (w : World) :
    Calls Try.prog 19 #[.string s] w fun e w' => e = .returned (.string ⟨(s.data.toList.map turnB).toArray⟩) ∧ Below w.heap.size w w' := by
  have hconv := run_bytes_of_string (P := Try.prog) w 9 45 5 s Try.underlying9 Try.underlying45 Try.underlying5
  generalize hcap : grownCap w s.size 0 5 = cap at hconv
  have hC := Lib.hid (bytesRow_at s cap)
  generalize bytesRow s cap = C at hconv hC
  clear hcap
  go_enter Try.func19, Try.ntmps19
  go_wp2
  go_loopw [9] (fun i wr => ∃ k : Nat, k ≤ s.size ∧ i = .int .i64 k ∧ Below w.heap.size w wr ∧ Buf wr w.heap.size (part turnB s k)) (fun i _ => s.size - (intOf i).toNat)
  case atStart =>
    refine ⟨0, Nat.zero_le _, rfl, ((Below.refl _ _).alloc (Nat.le_refl _) _).drew, ?_⟩
    have hp : part turnB s 0 = s.data.toList := by simp [part]
    rw [hp]
    refine ⟨by simp, fun j hj => ⟨?_, ?_⟩⟩
    · have hj' : j < s.data.size := hj
      have := hC.out j hj'
      rw [World.cell?_drew, World.cell?_alloc_mark, this]
      simp
    · rw [World.frozen?_drew, World.frozen?_alloc_mark]
      have hj' : j < s.data.size := hj
      have := hC.out j hj'
      have hlt : j < C.size := by
        rcases Nat.lt_or_ge j C.size with h | h
        · exact h
        · rw [Array.getElem?_eq_none h] at this; cases this
      simp; omega
  case round =>
    obtain ⟨k, hk, rfl, hB, hbuf⟩ := hrel
    by_cases hlt : k < s.size
    · have hm : Mid w wr s k s.data[k] := ⟨hB, by rw [show (part turnB s k).set k s.data[k] = part turnB s k from by rw [← part_at turnB s k hlt, List.set_getElem_self]]; exact hbuf⟩
      have hi0 : (0 : Int) ≤ (k : Int) := by omega
      have hi1 : (k : Int) < (s.size : Int) := by omega
      clear hB hbuf
      generalize hv : s.data[k] = v at hm
      have hv := Lib.hid hv
      have hb : v.toNat < 256 := UInt8.toNat_lt v
      obtain ⟨hcell, hfz⟩ := hm.at_ hlt
      have hg := hm.2.1
      have hmH := Lib.hid hm
      clear hm
      go_upto_region 5 with fail
      go_cut [] (fun wx => Mid w wx s k (b8 t1 v))
      case first =>
        go_still_tail 14, (by kernel_rfl)
        go_wp2_with fail
        go_meet
        exact hmH.out.put hlt t1 t1_all _ (by unfold t1; rw [IntKind.wrap_u8']) 1
      case rest =>
        clear hcell hfz hmH hg
        generalize hv1 : b8 t1 v = v1 at hcut
        have hv1 := Lib.hid hv1
        have hb1 : v1.toNat < 256 := UInt8.toNat_lt v1
        obtain ⟨hcell, hfz⟩ := hcut.at_ hlt
        have hg := hcut.2.1
        have hmH := Lib.hid hcut
        clear hcut
        go_upto_region 6 with fail
        go_cut [] (fun wx => Mid w wx s k (b8 t2 v1))
        case first =>
          go_still_tail 16, (by kernel_rfl)
          go_wp2_with fail
          go_meet
          exact hmH.out.put hlt t2 t2_all _ (by unfold t2; rw [IntKind.wrap_u8']) 1
        case rest =>
          clear hcell hfz hmH hg
          generalize hv2 : b8 t2 v1 = v2 at hcut
          have hv2 := Lib.hid hv2
          have hb2 : v2.toNat < 256 := UInt8.toNat_lt v2
          obtain ⟨hcell, hfz⟩ := hcut.at_ hlt
          have hg := hcut.2.1
          have hmH := Lib.hid hcut
          clear hcut
          go_upto_region 7 with fail
          go_still_tail 16, (by kernel_rfl)
          go_wp2
          go_roundw
          case rel =>
            have hcH := hmH.out.put hlt t3 t3_all _ rfl 1
            refine ⟨k + 1, by omega, by go_num, hcH.1, ?_⟩
            have := hcH.2
            rw [← hv2.out, ← hv1.out, ← hv.out, show b8 t3 (b8 t2 (b8 t1 s.data[k])) = turnB s.data[k] from rfl, part_set turnB s k hlt] at this
            rw [← hv2.out, ← hv1.out, ← hv.out]
            exact this
          case measure => simp [intOf]; omega
    · obtain rfl : k = s.size := by omega
      have hl := part_len turnB s s.size (Nat.le_refl _)
      have hback : (convert 45 9 (.slice (some ⟨w.heap.size, 0, none⟩) s.size cap)).run Try.prog wr = .ok (.string ⟨(part turnB s s.size).toArray⟩) wr := by
        have := run_convert_bytes_back (P := Try.prog) wr 45 9 5 ⟨w.heap.size, 0, none⟩ cap (part turnB s s.size) Try.underlying45 Try.underlying5 Try.underlying9
          (fun j hj => by
            have h := (hbuf.2 j hj).1
            rw [Addr.add_mid, Nat.zero_add]; exact h)
        rwa [hl] at this
      clear hl hbuf
      have hBH := Lib.hid hB
      clear hB
      go_wp2
      go_ret
      exact ⟨ret_string (by
        have e : s.data.toList.length = s.size := rfl
        simp [part, List.take_of_length_le (show s.data.toList.length ≤ s.size by omega), List.drop_of_length_le (show s.data.toList.length ≤ s.size by omega)]), hBH.out⟩

theorem bitAt_at0 (s : ByteArray) (i j : Nat) (hi : i < s.size) (hj : j < 8) (hs : s.size ≤ 1000) (w : World) :
    Calls Try.prog 29 #[.string s, .int .i64 (8 * (i : Int) + (j : Int)), .int .i64 0] w fun e w' => e = .returned (.int .u64 ((bitL (byteAt s i) j : Nat) % 2 : Int)) ∧ w = w' := by
  refine (bitAt_little s _ (by omega) (by omega) hs w).mono fun e w' ⟨he, hw⟩ => ⟨?_, hw⟩
  rw [he, show (8 * (i : Int) + (j : Int)).toNat / 8 = i from by omega, show (8 * (i : Int) + (j : Int)).toNat % 8 = j from by omega]
  rfl
def docT (c : Nat) : Nat → Nat
  | 0 => 0
  | j + 1 => docT c j * 2 + bitL c j % 2
theorem docT_lt (c : Nat) : ∀ j, docT c j < 2 ^ j
  | 0 => by simp [docT]
  | j + 1 => by have := docT_lt c j; rw [docT, Nat.pow_succ]; omega
theorem docT_le (c j : Nat) (h : j ≤ 8) : docT c j < 256 := Nat.lt_of_lt_of_le (docT_lt c j) (Nat.pow_le_pow_right (by omega) h)
theorem docT_succ (c j : Nat) : ((docT c (j + 1) : Nat) : Int) = (docT c j : Nat) * 2 + (bitL c j : Nat) % 2 := by rw [docT, Int.natCast_add]; rfl
def firsts (f : UInt8 → UInt8) (s : ByteArray) (k : Nat) : ByteArray := ⟨((s.data.toList.take k).map f).toArray⟩
def docB (b : UInt8) : UInt8 := UInt8.ofNat (docT b.toNat 8)

theorem firsts_size (f : UInt8 → UInt8) (s : ByteArray) (k : Nat) (h : k ≤ s.size) : (firsts f s k).size = k := by
  have e : s.data.toList.length = s.size := rfl
  show (((s.data.toList.take k).map f).toArray).size = k
  simp; omega
theorem firsts_succ (f : UInt8 → UInt8) (s : ByteArray) (k : Nat) (h : k < s.size) : firsts f s (k + 1) = firsts f s k ++ ⟨#[f s.data[k]]⟩ := by
  have e : s.data.toList.length = s.size := rfl
  have ht : s.data.toList.take (k + 1) = s.data.toList.take k ++ [s.data[k]] := by rw [List.take_succ_eq_append_getElem (by omega)]; simp
  apply ByteArray.ext
  unfold firsts
  rw [ht, ByteArray.data_append]
  simp
theorem docB_is (s : ByteArray) (k : Nat) (h : k < s.size) : docB s.data[k] = UInt8.ofNat (docT (byteAt s k) 8 % 256) := by
  rw [Nat.mod_eq_of_lt (docT_le _ 8 (by omega)), ← byteAt_eq s k h]; rfl

set_option maxHeartbeats 800000 in
theorem docTurn (s : ByteArray) (hs : s.size ≤ 1000) (w : World) :
    Calls Try.prog 20 #[.string s] w fun e w' => e = .returned (.string (firsts docB s s.size)) ∧ Below w.heap.size w w' := by
  go_enter Try.func20, Try.ntmps20
  go_wp2
  go_loopw [3, 4] (fun o i wr => ∃ k : Nat, k ≤ s.size ∧ i = .int .i64 k ∧ o = .string (firsts docB s k) ∧ Below w.heap.size w wr) (fun _ i _ => s.size - (intOf i).toNat)
  case atStart => exact ⟨0, Nat.zero_le _, rfl, by simp [firsts], Below.refl _ _⟩
  case round =>
    obtain ⟨k, hk, rfl, rfl, hB⟩ := hrel
    have hB := Lib.hid hB
    by_cases hlt : k < s.size
    · go_wp2
      go_loop [5, 6] (fun b j => ∃ m : Nat, m ≤ 8 ∧ j = .int .i64 m ∧ b = .int .u64 (docT (byteAt s k) m : Nat)) (fun _ j => 8 - (intOf j).toNat)
      case atStart => exact ⟨0, by omega, rfl, rfl⟩
      case round =>
        obtain ⟨m, hm, rfl, rfl⟩ := hrel
        have hd := docT_le (byteAt s k) m hm
        by_cases hm8 : m < 8
        · have HD := Lib.hid (docT_succ (byteAt s k) m)
          go_wp2_with (go_at_call 29; refine (bitAt_at0 s k m hlt hm8 hs _).mono ?_; rintro e w' ⟨rfl, rfl⟩)
          go_round
          case rel => exact ⟨m + 1, by omega, by go_num, by rw [HD.out]⟩
          case measure => simp [intOf]; omega
        · obtain rfl : m = 8 := by omega
          have hsz : (firsts docB s k).size ≤ 1000 := by rw [firsts_size docB s k hk]; omega
          go_wp2_with (go_at_call 30; refine (char_any _ (by omega) _).mono ?_; rintro e w' ⟨rfl, hb'⟩; have hbH := Lib.hid (hB.out.trans (hb'.mono hB.out.size)))
          clear hb'
          go_roundw
          case rel => exact ⟨k + 1, by omega, by go_num, by rw [firsts_succ docB s k hlt, docB_is s k hlt], hbH.out⟩
          case measure => simp [intOf]; omega
    · obtain rfl : k = s.size := by omega
      go_wp2
      go_ret
      exact ⟨rfl, hB.out⟩
end Go.Proofs.Ytebjccenlfhilaa.Bits
