/-
  PROVED HERE: contracts of text.Shown and of the document's Shown. Conditions: as each theorem states.
-/
import Derived.Test.YthkigjhbcempbaaDoorRows
import Derived.Test.YthkigjhbcempbaaDoorOwn
import Derived.Test.YthkigjhbcempbaaDoorRef
namespace Go.Proofs.YthkigjhbcempbaaDoor.Shw
open Go.RowKit

/-- A byte as it is shown. -/
def sh (c : UInt8) : UInt8 := if 32 ≤ c.toNat ∧ c.toNat ≤ 126 then c else 46
/-- The bytes, the first k as they are shown. -/
def bat (s : ByteArray) (i : Nat) : UInt8 := s.data[i]?.getD 0
theorem bat_eq (s : ByteArray) (k : Nat) (h : k < s.size) : bat s k = s[k] := getD_eq s k h
def shl (s : ByteArray) (k : Nat) : List UInt8 := (List.range s.size).map fun i => if i < k then sh (bat s i) else bat s i
theorem list_bat (s : ByteArray) : s.data.toList = (List.range s.size).map (bat s) := by
  have e : s.data.toList.length = s.size := rfl
  apply List.ext_getElem
  · simp
  · intro i h1 h2
    have hi : i < s.size := by omega
    rw [List.getElem_map, List.getElem_range, bat_eq s i hi]
    simp
    rfl
theorem shl_zero (s : ByteArray) : shl s 0 = s.data.toList := by
  rw [list_bat]; simp [shl]
theorem shl_len (s : ByteArray) (k : Nat) : (shl s k).length = s.size := by simp [shl]
theorem shl_at (s : ByteArray) (k : Nat) (h : k < s.size) (h2 : k < (shl s k).length) : (shl s k)[k] = s[k] := by
  simp only [shl, List.getElem_map, List.getElem_range]
  rw [if_neg (Nat.lt_irrefl k), bat_eq s k h]
theorem shl_succ (s : ByteArray) (k : Nat) (h : k < s.size) : (shl s k).set k (sh s[k]) = shl s (k + 1) := by
  apply List.ext_getElem
  · simp [shl]
  · intro i h1 h2
    rw [List.getElem_set]
    simp only [shl, List.getElem_map, List.getElem_range]
    by_cases e : k = i
    · subst e
      rw [if_pos rfl, if_pos (by omega), bat_eq s k h]
    · rw [if_neg e]
      by_cases c : i < k
      · rw [if_pos c, if_pos (by omega)]
      · rw [if_neg c, if_neg (by omega)]
theorem shl_same (s : ByteArray) (k : Nat) (h : k < s.size) (hc : sh s[k] = s[k]) : shl s k = shl s (k + 1) := by
  rw [← shl_succ s k h, hc]
  apply List.ext_getElem
  · simp
  · intro i h1 h2
    rw [List.getElem_set]
    by_cases e : k = i
    · subst e
      rw [if_pos rfl, shl_at s k h]
    · rw [if_neg e]
def shT (s : ByteArray) : ByteArray := ⟨((List.range s.size).map fun i => sh (bat s i)).toArray⟩
theorem shl_all (s : ByteArray) : (⟨(shl s s.size).toArray⟩ : ByteArray) = shT s := by
  unfold shl shT
  congr 2
  apply List.map_congr_left
  intro i hi
  rw [if_pos (List.mem_range.1 hi)]
theorem sh_yes (c : UInt8) (h : 32 ≤ c.toNat ∧ c.toNat ≤ 126) : sh c = c := by unfold sh; rw [if_pos h]
theorem sh_no (c : UInt8) (h : ¬ (32 ≤ c.toNat ∧ c.toNat ≤ 126)) : sh c = 46 := by unfold sh; rw [if_neg h]

set_option maxRecDepth 100000 in
set_option maxHeartbeats 800000 in
theorem shown_any (s : ByteArray) (hs : s.size ≤ 1000) (W : World) :
    Calls Tryd.prog 36 #[.string s] W fun e w' => e = .returned (.string (shT s)) ∧ Below W.heap.size W w' := by
  have hconv := run_bytes_of_string (P := Tryd.prog) W 9 67 5 s Tryd.underlying9 Tryd.underlying67 Tryd.underlying5
  generalize hcap : grownCap W s.size 0 5 = cap at hconv
  have hC := Lib.hid (bytesRow_at s cap)
  generalize bytesRow s cap = C at hconv hC
  clear hcap
  go_enter Tryd.func36, Tryd.ntmps36
  go_wp2_with fail
  go_loopw [10] (fun i wr => ∃ k : Nat, k ≤ s.size ∧ i = .int .i64 k ∧ Below W.heap.size W wr ∧ Buf wr W.heap.size (shl s k)) (fun i _ => s.size - (intOf i).toNat)
  case atStart =>
    refine ⟨0, Nat.zero_le _, rfl, ((Below.refl _ _).alloc (Nat.le_refl _) _).drew, ?_⟩
    rw [shl_zero]
    refine ⟨by simp, fun j hj => ⟨?_, ?_⟩⟩
    · have hj' : j < s.data.size := hj
      have := hC.out j hj'
      rw [World.cell?_drew, World.cell?_alloc_mark, this]
      simp
    · rw [World.frozen?_drew, World.frozen?_alloc_mark]
      have hj' : j < s.data.size := hj
      have := hC.out j hj'
      have hlt : j < C.size := by
        rcases Nat.lt_or_ge j C.size with h | h
        · exact h
        · rw [Array.getElem?_eq_none h] at this; cases this
      simp; omega
  case round =>
    obtain ⟨k, hk, rfl, hB, hbuf⟩ := hrel
    have hBH := Lib.hid hB
    have hbufH := Lib.hid hbuf
    clear hB hconv hC
    by_cases hlt : k < s.size
    · have hl2 : k < (shl s k).length := by rw [shl_len s k]; exact hlt
      have hfz := (hbuf.2 k hl2).2
      have hcell := (hbuf.2 k hl2).1
      rw [shl_at s k hlt hl2] at hcell
      have HS := Lib.hid (shl_succ s k hlt)
      have hL := Lib.hid hl2
      have i1 : (0 : Int) ≤ (k : Int) := by omega
      have i2 : (k : Int) < (s.size : Int) := by omega
      have hb3 : s[k].toNat < 256 := UInt8.toNat_lt _
      have SY := Lib.hid (sh_yes s[k])
      have SN := Lib.hid (sh_no s[k])
      have SS := Lib.hid (shl_same s k hlt)
      clear hbuf hl2
      generalize s[k] = c at *
      rcases (show c.toNat < 32 ∨ (¬ c.toNat < 32 ∧ 126 < c.toNat) ∨ (¬ c.toNat < 32 ∧ ¬ 126 < c.toNat) by omega) with h1 | ⟨h1, h2⟩ | ⟨h1, h2⟩
      · have hn := Lib.hid (SN.out (by omega))
        go_wp2_with fail
        go_roundw
        case rel =>
          refine ⟨k + 1, by omega, by go_num, (hBH.out).setCell (p := ⟨W.heap.size, k, none⟩) (Nat.le_refl _) _, ?_⟩
          have := hbufH.out.set_ k 46 hL.out
          rw [← hn.out, HS.out] at this
          rw [hn.out] at this
          exact this
        case measure => simp [intOf]; omega
      · have hn := Lib.hid (SN.out (by omega))
        go_wp2_with fail
        go_roundw
        case rel =>
          refine ⟨k + 1, by omega, by go_num, (hBH.out).setCell (p := ⟨W.heap.size, k, none⟩) (Nat.le_refl _) _, ?_⟩
          have := hbufH.out.set_ k 46 hL.out
          rw [← hn.out, HS.out] at this
          rw [hn.out] at this
          exact this
        case measure => simp [intOf]; omega
      · have hn := Lib.hid (SY.out (by omega))
        go_wp2_with fail
        go_roundw
        case rel =>
          refine ⟨k + 1, by omega, by go_num, hBH.out, ?_⟩
          rw [← SS.out hn.out]
          exact hbufH.out
        case measure => simp [intOf]; omega
    · obtain rfl : k = s.size := by omega
      have hlen := shl_len s s.size
      have hback : (convert 67 9 (.slice (some ⟨W.heap.size, 0, none⟩) s.size cap)).run Tryd.prog wr = .ok (.string (shT s)) wr := by
        have := run_convert_bytes_back (P := Tryd.prog) wr 67 9 5 ⟨W.heap.size, 0, none⟩ cap (shl s s.size) Tryd.underlying67 Tryd.underlying5 Tryd.underlying9
          (fun j hj => by
            have h := (hbuf.2 j hj).1
            rw [Addr.add_mid, Nat.zero_add]; exact h)
        rw [hlen, shl_all] at this
        exact this
      clear hbuf hlen
      go_wp2_with fail
      go_ret
      exact ⟨rfl, hBH.out⟩

theorem one_byte (s : ByteArray) (k : Nat) (h : k < s.size) : s.extract k (k + 1) = ⟨#[s[k]]⟩ := by
  have e : s.data.toList.length = s.size := rfl
  apply ByteArray.ext
  rw [ByteArray.data_extract]
  apply Array.ext'
  simp [Array.toList_extract, List.extract_eq_take_drop]
  rw [List.drop_eq_getElem_cons (by omega)]
  simp
  rfl
def shK (s : ByteArray) (k : Nat) : ByteArray := ⟨((List.range k).map fun i => sh (bat s i)).toArray⟩
theorem shK_size (s : ByteArray) (k : Nat) : (shK s k).size = k := by
  show ((List.range k).map fun i => sh (bat s i)).toArray.size = k
  simp
theorem shK_succ (s : ByteArray) (k : Nat) (h : k < s.size) : shK s (k + 1) = shK s k ++ ⟨#[sh s[k]]⟩ := by
  apply ByteArray.ext
  unfold shK
  rw [ByteArray.data_append, List.range_succ, ← bat_eq s k h]
  simp
theorem shK_all (s : ByteArray) : shK s s.size = shT s := rfl
set_option maxHeartbeats 800000 in
theorem docShown_any (s : ByteArray) (hs : s.size ≤ 1000) (W : World) :
    Calls Tryd.prog 31 #[.string s] W fun e w' => e = .returned (.string (shT s)) ∧ W = w' := by
  go_enter Tryd.func31, Tryd.ntmps31
  go_wp2_with fail
  go_loop [3, 4] (fun v i => ∃ k : Nat, k ≤ s.size ∧ i = .int .i64 k ∧ v = .string (shK s k)) (fun _ i => s.size - (intOf i).toNat)
  case atStart => exact ⟨0, Nat.zero_le _, rfl, by simp [shK]⟩
  case round =>
    obtain ⟨k, hk, rfl, rfl⟩ := hrel
    have hz : (shK s k).size ≤ 1000 := by rw [shK_size s k]; omega
    by_cases hlt : k < s.size
    · have hb3 : s[k].toNat < 256 := UInt8.toNat_lt _
      have HS := Lib.hid (shK_succ s k hlt)
      have H1 := Lib.hid (one_byte s k hlt)
      by_cases h : 32 ≤ s[k].toNat ∧ s[k].toNat ≤ 126
      · have hn := Lib.hid (sh_yes s[k] h)
        have i1 : (k : Int) + 1 ≤ (s.size : Int) := by omega
        go_wp2_with fail
        refine (Ref.within_yes _ _ _ (by omega) (by omega) _).mono ?_; rintro e w' ⟨rfl, rfl⟩
        go_wp2_with fail
        go_round
        case rel => exact ⟨k + 1, by omega, by go_num, by rw [HS.out, hn.out, H1.out]⟩
        case measure => simp [intOf]; omega
      · have hn := Lib.hid (sh_no s[k] h)
        go_wp2_with fail
        refine (Ref.within_no _ _ _ (by omega) _).mono ?_; rintro e w' ⟨rfl, rfl⟩
        go_wp2_with fail
        go_round
        case rel => exact ⟨k + 1, by omega, by go_num, by rw [HS.out, hn.out]⟩
        case measure => simp [intOf]; omega
    · obtain rfl : k = s.size := by omega
      rw [shK_all]
      go_wp2_with fail
      go_ret
      exact ⟨rfl, rfl⟩
end Go.Proofs.YthkigjhbcempbaaDoor.Shw
