/-
  PROVED HERE: contracts of the document's BitsPut, over every input within the statement's bounds. Conditions: as each theorem states.
-/
import Derived.Test.YtebjccenlfhilaaDoorPutB
import Derived.Test.YtebjccenlfhilaaDoorWordB
namespace Go.Proofs.YtebjccenlfhilaaDoor.Bit
open Go.RowKit

/-- Block g holds the numbers l from its first cell on, and they may be written. -/
def NBuf (w : World) (g : Nat) (l : List Nat) : Prop :=
  g < w.heap.size ∧ ∀ j (h : j < l.length), w.cell? ⟨g, j, none⟩ = some (.int .u64 (l[j] : Int)) ∧ w.frozen? ⟨g, j, none⟩ = false
theorem NBuf.keep {w w' : World} {g : Nat} {l : List Nat} (h : NBuf w g l) (hs : w.heap.size ≤ w'.heap.size) (hb : w'.heap[g]? = w.heap[g]?) : NBuf w' g l :=
  ⟨Nat.lt_of_lt_of_le h.1 hs, fun j hj => ⟨(World.cell?_of_block (a := ⟨g, j, none⟩) hb).trans (h.2 j hj).1, (World.frozen?_of_block (a := ⟨g, j, none⟩) hb).trans (h.2 j hj).2⟩⟩
theorem NBuf.below {w w' : World} {g : Nat} {l : List Nat} (h : NBuf w g l) (hb : Below w.heap.size w w') : NBuf w' g l := h.keep hb.size (hb.block g h.1)
theorem NBuf.set_ {w : World} {g : Nat} {l : List Nat} (h : NBuf w g l) (i : Nat) (b : Nat) (hi : i < l.length) : NBuf (w.setCell ⟨g, i, none⟩ (.int .u64 (b : Int))) g (l.set i b) := by
  refine ⟨by simpa [World.setCell] using h.1, fun j hj => ⟨?_, ?_⟩⟩
  · have hj' : j < l.length := by simpa using hj
    by_cases e : i = j
    · subst e
      rw [World.cell?_setCell_same _ _ _ (h.2 i hi).1]
      simp
    · rw [World.cell?_setCell_other _ _ _ _ (fun hh => e (by injection hh))]
      rw [(h.2 j hj').1]
      simp [e]
  · rw [frozen?_setCell]
    exact (h.2 j (by simpa using hj)).2
theorem nbuf_made (w : World) (n : Nat) : NBuf (w.alloc (.cells (madeCells #[.int .u64 0] n) 27)) w.heap.size (List.replicate n 0) := by
  refine ⟨by simp, fun j hj => ⟨?_, ?_⟩⟩
  · have hj' : j < n := by simpa using hj
    rw [World.cell?_alloc_new]
    have := toList_madeCells_one (.int .u64 0) n
    rw [← Array.getElem?_toList, this]
    simp [hj']
  · rw [World.frozen?_alloc_mark]; simp

/-- The bits wanted, behind k of them. -/
def wl (x n o k : Nat) : List Nat := (List.range n).map fun i => if frm n o i < k then vx x n o i else 0
theorem wl_len (x n o k : Nat) : (wl x n o k).length = n := by simp [wl]
theorem frm_lt (n o k : Nat) (h : k < n) : frm n o k < n := by unfold frm; split <;> omega
theorem frm_frm (n o k : Nat) (h : k < n) : frm n o (frm n o k) = k := by unfold frm; split <;> omega
theorem wl_zero (x n o : Nat) : wl x n o 0 = List.replicate n 0 := by
  apply List.ext_getElem
  · simp [wl]
  · intro i h1 h2
    simp [wl]
theorem wl_set (x n o k : Nat) (h : k < n) : (wl x n o k).set (frm n o k) (x / 2 ^ k % 2) = wl x n o (k + 1) := by
  apply List.ext_getElem
  · simp [wl_len]
  · intro i h1 h2
    have hi : i < n := by simpa [wl_len] using h2
    rw [List.getElem_set]
    simp only [wl, List.getElem_map, List.getElem_range]
    by_cases e : frm n o k = i
    · subst e
      rw [if_pos rfl, if_pos (by rw [frm_frm n o k h]; omega), vx, frm_frm n o k h]
    · rw [if_neg e]
      have : frm n o i ≠ k := fun he => e (by rw [← he, frm_frm n o i hi])
      by_cases h3 : frm n o i < k
      · rw [if_pos h3, if_pos (by omega)]
      · rw [if_neg h3, if_neg (by omega)]
theorem wl_at (x n o i : Nat) (h : i < (wl x n o n).length) : (wl x n o n)[i] = vx x n o i := by
  have hi : i < n := by simpa [wl_len] using h
  simp only [wl, List.getElem_map, List.getElem_range]
  rw [if_pos (frm_lt n o i hi)]
theorem half_succ (x k : Nat) : ((x / 2 ^ (k + 1) : Nat) : Int) = ((x / 2 ^ k : Nat) : Int) / 2 := by
  rw [Nat.pow_succ, ← Nat.div_div_eq_div_mul]; omega

/-- The text's first j bytes behind all bits. -/
def tk (s : ByteArray) (x n a o j : Nat) : ByteArray := ⟨((lst s x n o a n).take j).toArray⟩
theorem tk_size (s : ByteArray) (x n a o j : Nat) : (tk s x n a o j).size ≤ j := by
  show ((lst s x n o a n).take j).toArray.size ≤ j
  simp; omega
theorem tk_zero (s : ByteArray) (x n a o : Nat) : tk s x n a o 0 = ⟨#[]⟩ := by simp [tk]
theorem tk_all (s : ByteArray) (x n a o : Nat) : tk s x n a o s.size = ⟨(lst s x n o a n).toArray⟩ := by
  unfold tk; rw [List.take_of_length_le (by rw [lst_len]; exact Nat.le_refl _)]
theorem tk_succ (s : ByteArray) (x n a o j c : Nat) (h : j < s.size) (hc : pb (byteAt s) (vx x n o) o a n j = c) : tk s x n a o (j + 1) = tk s x n a o j ++ ⟨#[UInt8.ofNat (c % 256)]⟩ := by
  have hl := pb_lt (byteAt s) (vx x n o) o a (byteAt_lt s) (vx_lt x n o) n j
  rw [hc] at hl
  apply ByteArray.ext
  unfold tk
  rw [ByteArray.data_append]
  rw [Nat.mod_eq_of_lt hl]
  simp [List.take_add_one, lst, h, hc]

set_option maxRecDepth 100000 in
set_option maxHeartbeats 800000 in
theorem docPut_yes (s : ByteArray) (a n o x : Nat) (ho : o ≤ 1) (h : lie s.size a n) (hs : s.size ≤ 60) (hx : x < 18446744073709551616) (W : World) :
    Calls Tryd.prog 27 #[.string s, .int .i64 a, .int .i64 n, .int .i64 o, .int .u64 x] W fun e w' => e = .returned (.tuple #[.string ⟨(lst s x n o a n).toArray⟩, .int .i64 0]) ∧ Below W.heap.size W w' := by
  have CG := Lib.hid (fun W => there_yes s a n o (by omega) h (by omega) W)
  have h1 : n ≤ 64 ∧ a + n ≤ 8 * s.size := by unfold lie at h; omega
  clear h
  have hmk := fun W => run_make_row' (P := Tryd.prog) 82 27 (.int .u64 0) 8 Tryd.underlying82 (by kernel_rfl) rfl .i64 .i64 n (by omega) (by omega) W
  rcases (show o = 0 ∨ o = 1 by omega) with rfl | rfl
  · go_enter Tryd.func27, Tryd.ntmps27
    go_wp2_with fail
    refine (CG.out _).mono ?_; rintro e w' ⟨rfl, rfl⟩
    go_wp2_with fail
    go_loopw [14, 4] (fun i v wr => ∃ k : Nat, k ≤ n ∧ i = .int .i64 k ∧ v = .int .u64 (x / 2 ^ k : Nat) ∧ Below W.heap.size W wr ∧ NBuf wr W.heap.size (wl x n 0 k)) (fun i _ _ => n - (intOf i).toNat)
    case atStart =>
      refine ⟨0, Nat.zero_le _, rfl, by simp, (Below.refl _ _).alloc (Nat.le_refl _) _, ?_⟩
      rw [wl_zero]; exact nbuf_made W n
    case round =>
      obtain ⟨k, hk, rfl, rfl, hB, hbuf⟩ := hrel
      have hBH := Lib.hid hB
      clear hB hmk
      have hd : x / 2 ^ k < 18446744073709551616 := Nat.lt_of_le_of_lt (Nat.div_le_self _ _) hx
      by_cases hlt : k < n
      · have HS : Hid ((wl x n 0 k).set k (x / 2 ^ k % 2) = wl x n 0 (k + 1)) := Lib.hid (wl_set x n 0 k hlt)
        have hfz := (hbuf.2 k (by rw [wl_len]; exact hlt)).2
        obtain ⟨c0, hcell⟩ : ∃ v, wr.cell? ⟨W.heap.size, k, none⟩ = some v := ⟨_, (hbuf.2 k (by rw [wl_len]; exact hlt)).1⟩
        have hbufH := Lib.hid hbuf
        have hlen := Lib.hid (wl_len x n 0 k)
        have HH := Lib.hid (half_succ x k)
        clear hbuf
        generalize x / 2 ^ k = d at *
        have i1 : (0 : Int) ≤ (k : Int) := by omega
        have i2 : (k : Int) < (n : Int) := by omega
        have em := Lib.hid (show ((d : Int) % 2) = ((d % 2 : Nat) : Int) from by omega)
        go_wp2_with fail
        go_roundw
        case rel =>
          refine ⟨k + 1, by omega, by go_num, by rw [HH.out], (hBH.out).setCell (p := ⟨W.heap.size, k, none⟩) (Nat.le_refl _) _, ?_⟩
          have := hbufH.out.set_ k (d % 2) (by rw [hlen.out]; exact hlt)
          rw [HS.out] at this
          rw [em.out]
          exact this
        case measure => simp [intOf]; omega
      · obtain rfl : k = n := by omega
        have hbufH := Lib.hid hbuf
        clear hbuf
        generalize x / 2 ^ k = d at *
        go_wp2_with fail
        go_loopw [17, 16] (fun i t wq => ∃ j : Nat, j ≤ s.size ∧ i = .int .i64 j ∧ t = .string (tk s x k a 0 j) ∧ Below W.heap.size W wq ∧ NBuf wq W.heap.size (wl x k 0 k)) (fun i _ _ => s.size - (intOf i).toNat)
        case atStart => exact ⟨0, Nat.zero_le _, rfl, by rw [tk_zero], hBH.out, hbufH.out⟩
        case round =>
          obtain ⟨j, hj, rfl, rfl, hB2, hbuf2⟩ := hrel
          by_cases hjl : j < s.size
          · have hB2H := Lib.hid hB2
            have hbuf2H := Lib.hid hbuf2
            clear hB2 hbuf2 hbufH
            have HV : Hid (∀ J, J / 8 = j → pb (byteAt s) (vx x k 0) 0 a k j / 2 ^ bp 0 J % 2 = if a ≤ J ∧ J < a + k then vx x k 0 (J - a) else bt s 0 J) := Lib.hid (fun J hJ => by
              have := pb_bit (byteAt s) (vx x k 0) 0 a (byteAt_lt s) (vx_lt x k 0) J k
              rw [hJ] at this
              rw [this]
              unfold bt
              rw [hJ])
            have hc := pb_lt (byteAt s) (vx x k 0) 0 a (byteAt_lt s) (vx_lt x k 0) k j
            generalize hcc : pb (byteAt s) (vx x k 0) 0 a k j = c at *
            have hccH := Lib.hid hcc
            clear hcc
            go_wp2_with fail
            go_loop [19, 18] (fun i t => ∃ q : Nat, q ≤ 8 ∧ i = .int .i64 q ∧ t = .int .u64 (beV (fun k => c / 2 ^ (7 - k) % 2) q : Nat)) (fun i _ => 8 - (intOf i).toNat)
            case atStart => exact ⟨0, Nat.zero_le _, rfl, rfl⟩
            case round =>
              obtain ⟨q, hq, rfl, rfl⟩ := hrel
              by_cases hql : q < 8
              · have hbv := beV_lt (fun k => c / 2 ^ (7 - k) % 2) (fun _ => Nat.mod_lt _ (by omega)) q
                have hbv2 : (2 : Nat) ^ q ≤ 2 ^ 7 := Nat.pow_le_pow_right (by omega) (by omega)
                have hbS := Lib.hid (beV_succ (fun k => c / 2 ^ (7 - k) % 2) q)
                obtain ⟨J, hJ⟩ : ∃ J : Nat, 8 * (j : Int) + 7 - q = J := ⟨8 * j + 7 - q, by omega⟩
                have hv := HV.out J (by omega)
                have hbp : bp 0 J = 7 - q := by unfold bp; rw [if_neg (by decide)]; omega
                rw [hbp] at hv
                have hJ2 : J < 8 * s.size := by omega
                have CB := Lib.hid (fun W => bitAt_any s J 0 (by omega) hJ2 (by omega) W)
                have hbt := bt_lt s 0 J
                generalize beV (fun k => c / 2 ^ (7 - k) % 2) q = bb at *
                generalize c / 2 ^ (7 - q) % 2 = y at *
                have hbb : bb < 128 := by omega
                clear hbv hbv2 hbp
                by_cases hin : a ≤ J ∧ J < a + k
                · rw [if_pos hin] at hv
                  obtain ⟨m, hm⟩ : ∃ m : Nat, (J : Int) - a = m := ⟨J - a, by omega⟩
                  rw [show J - a = m from by omega] at hv
                  have hmk : m < k := by omega
                  have hcell := (hbuf2H.out.2 m (by rw [wl_len]; exact hmk)).1
                  rw [wl_at] at hcell
                  have hy := vx_lt x k 0 m
                  rw [← hv] at hcell hy
                  have i1 : (0 : Int) ≤ (m : Int) := by omega
                  have i2 : (m : Int) < (k : Int) := by omega
                  clear hv
                  go_wp2_with fail
                  refine (CB.out _).mono ?_; rintro e w' ⟨rfl, rfl⟩
                  go_wp2_with fail
                  refine (Ref.within_yes _ _ _ (by omega) (by omega) _).mono ?_; rintro e w' ⟨rfl, rfl⟩
                  go_wp2_with fail
                  go_round
                  case rel => exact ⟨q + 1, by omega, by go_num, by rw [hbS.out]⟩
                  case measure => simp [intOf]; omega
                · rw [if_neg hin] at hv
                  go_wp2_with fail
                  refine (CB.out _).mono ?_; rintro e w' ⟨rfl, rfl⟩
                  go_wp2_with fail
                  refine (Ref.within_no _ _ _ (by omega) _).mono ?_; rintro e w' ⟨rfl, rfl⟩
                  go_wp2_with fail
                  go_round
                  case rel => exact ⟨q + 1, by omega, by go_num, by rw [hbS.out, hv]⟩
                  case measure => simp [intOf]; omega
              · obtain rfl : q = 8 := by omega
                have h8 : beV (fun k => c / 2 ^ (7 - k) % 2) 8 = c := up8_is c hc
                have HT := Lib.hid (tk_succ s x k a 0 j c hjl hccH.out)
                have hz := tk_size s x k a 0 j
                rw [h8]
                generalize tk s x k a 0 j = T at *
                go_wp2_with fail
                refine (Word.char_any _ (by omega) _).mono ?_; rintro e w5 ⟨rfl, hb⟩
                have hb5 := Lib.hid (hB2H.out.trans (hb.mono hB2H.out.size))
                have hn5 := Lib.hid (hbuf2H.out.below hb)
                clear hb
                go_wp2_with fail
                go_roundw
                case rel => exact ⟨j + 1, by omega, by go_num, by rw [HT.out], hb5.out, hn5.out⟩
                case measure => simp [intOf]; omega
          · obtain rfl : j = s.size := by omega
            have hB2H := Lib.hid hB2
            clear hB2 hbuf2 hbufH
            rw [tk_all]
            go_wp2_with fail
            go_ret2
            exact ⟨rfl, hB2H.out⟩
  · go_enter Tryd.func27, Tryd.ntmps27
    go_wp2_with fail
    refine (CG.out _).mono ?_; rintro e w' ⟨rfl, rfl⟩
    go_wp2_with fail
    go_loopw [14, 4] (fun i v wr => ∃ k : Nat, k ≤ n ∧ i = .int .i64 k ∧ v = .int .u64 (x / 2 ^ k : Nat) ∧ Below W.heap.size W wr ∧ NBuf wr W.heap.size (wl x n 1 k)) (fun i _ _ => n - (intOf i).toNat)
    case atStart =>
      refine ⟨0, Nat.zero_le _, rfl, by simp, (Below.refl _ _).alloc (Nat.le_refl _) _, ?_⟩
      rw [wl_zero]; exact nbuf_made W n
    case round =>
      obtain ⟨k, hk, rfl, rfl, hB, hbuf⟩ := hrel
      have hBH := Lib.hid hB
      clear hB hmk
      have hd : x / 2 ^ k < 18446744073709551616 := Nat.lt_of_le_of_lt (Nat.div_le_self _ _) hx
      by_cases hlt : k < n
      · obtain ⟨m, hm⟩ : ∃ m : Nat, (n : Int) - 1 - k = m := ⟨n - 1 - k, by omega⟩
        have hmn : m < n := by omega
        have em1 : frm n 1 k = m := by unfold frm; rw [if_pos rfl]; omega
        have HS : Hid ((wl x n 1 k).set m (x / 2 ^ k % 2) = wl x n 1 (k + 1)) := Lib.hid (by rw [← em1]; exact wl_set x n 1 k hlt)
        have hfz := (hbuf.2 m (by rw [wl_len]; exact hmn)).2
        obtain ⟨c0, hcell⟩ : ∃ v, wr.cell? ⟨W.heap.size, m, none⟩ = some v := ⟨_, (hbuf.2 m (by rw [wl_len]; exact hmn)).1⟩
        have hbufH := Lib.hid hbuf
        have hlen := Lib.hid (wl_len x n 1 k)
        have HH := Lib.hid (half_succ x k)
        clear hbuf
        generalize x / 2 ^ k = d at *
        have i1 : (0 : Int) ≤ (m : Int) := by omega
        have i2 : (m : Int) < (n : Int) := by omega
        have em := Lib.hid (show ((d : Int) % 2) = ((d % 2 : Nat) : Int) from by omega)
        go_wp2_with fail
        go_roundw
        case rel =>
          refine ⟨k + 1, by omega, by go_num, by rw [HH.out], (hBH.out).setCell (p := ⟨W.heap.size, m, none⟩) (Nat.le_refl _) _, ?_⟩
          have := hbufH.out.set_ m (d % 2) (by rw [hlen.out]; exact hmn)
          rw [HS.out] at this
          rw [em.out]
          exact this
        case measure => simp [intOf]; omega
      · obtain rfl : k = n := by omega
        have hbufH := Lib.hid hbuf
        clear hbuf
        generalize x / 2 ^ k = d at *
        go_wp2_with fail
        go_loopw [17, 16] (fun i t wq => ∃ j : Nat, j ≤ s.size ∧ i = .int .i64 j ∧ t = .string (tk s x k a 1 j) ∧ Below W.heap.size W wq ∧ NBuf wq W.heap.size (wl x k 1 k)) (fun i _ _ => s.size - (intOf i).toNat)
        case atStart => exact ⟨0, Nat.zero_le _, rfl, by rw [tk_zero], hBH.out, hbufH.out⟩
        case round =>
          obtain ⟨j, hj, rfl, rfl, hB2, hbuf2⟩ := hrel
          by_cases hjl : j < s.size
          · have hB2H := Lib.hid hB2
            have hbuf2H := Lib.hid hbuf2
            clear hB2 hbuf2 hbufH
            have HV : Hid (∀ J, J / 8 = j → pb (byteAt s) (vx x k 1) 1 a k j / 2 ^ bp 1 J % 2 = if a ≤ J ∧ J < a + k then vx x k 1 (J - a) else bt s 1 J) := Lib.hid (fun J hJ => by
              have := pb_bit (byteAt s) (vx x k 1) 1 a (byteAt_lt s) (vx_lt x k 1) J k
              rw [hJ] at this
              rw [this]
              unfold bt
              rw [hJ])
            have hc := pb_lt (byteAt s) (vx x k 1) 1 a (byteAt_lt s) (vx_lt x k 1) k j
            generalize hcc : pb (byteAt s) (vx x k 1) 1 a k j = c at *
            have hccH := Lib.hid hcc
            clear hcc
            go_wp2_with fail
            go_loop [19, 18] (fun i t => ∃ q : Nat, q ≤ 8 ∧ i = .int .i64 q ∧ t = .int .u64 (beV (fun k => c / 2 ^ (7 - k) % 2) q : Nat)) (fun i _ => 8 - (intOf i).toNat)
            case atStart => exact ⟨0, Nat.zero_le _, rfl, rfl⟩
            case round =>
              obtain ⟨q, hq, rfl, rfl⟩ := hrel
              by_cases hql : q < 8
              · have hbv := beV_lt (fun k => c / 2 ^ (7 - k) % 2) (fun _ => Nat.mod_lt _ (by omega)) q
                have hbv2 : (2 : Nat) ^ q ≤ 2 ^ 7 := Nat.pow_le_pow_right (by omega) (by omega)
                have hbS := Lib.hid (beV_succ (fun k => c / 2 ^ (7 - k) % 2) q)
                obtain ⟨J, hJ⟩ : ∃ J : Nat, 8 * (j : Int) + q = J := ⟨8 * j + q, by omega⟩
                have hv := HV.out J (by omega)
                have hbp : bp 1 J = 7 - q := by unfold bp; rw [if_pos rfl]; omega
                rw [hbp] at hv
                have hJ2 : J < 8 * s.size := by omega
                have CB := Lib.hid (fun W => bitAt_any s J 1 (by omega) hJ2 (by omega) W)
                have hbt := bt_lt s 1 J
                generalize beV (fun k => c / 2 ^ (7 - k) % 2) q = bb at *
                generalize c / 2 ^ (7 - q) % 2 = y at *
                have hbb : bb < 128 := by omega
                clear hbv hbv2 hbp
                by_cases hin : a ≤ J ∧ J < a + k
                · rw [if_pos hin] at hv
                  obtain ⟨m, hm⟩ : ∃ m : Nat, (J : Int) - a = m := ⟨J - a, by omega⟩
                  rw [show J - a = m from by omega] at hv
                  have hmk : m < k := by omega
                  have hcell := (hbuf2H.out.2 m (by rw [wl_len]; exact hmk)).1
                  rw [wl_at] at hcell
                  have hy := vx_lt x k 1 m
                  rw [← hv] at hcell hy
                  have i1 : (0 : Int) ≤ (m : Int) := by omega
                  have i2 : (m : Int) < (k : Int) := by omega
                  clear hv
                  go_wp2_with fail
                  refine (CB.out _).mono ?_; rintro e w' ⟨rfl, rfl⟩
                  go_wp2_with fail
                  refine (Ref.within_yes _ _ _ (by omega) (by omega) _).mono ?_; rintro e w' ⟨rfl, rfl⟩
                  go_wp2_with fail
                  go_round
                  case rel => exact ⟨q + 1, by omega, by go_num, by rw [hbS.out]⟩
                  case measure => simp [intOf]; omega
                · rw [if_neg hin] at hv
                  go_wp2_with fail
                  refine (CB.out _).mono ?_; rintro e w' ⟨rfl, rfl⟩
                  go_wp2_with fail
                  refine (Ref.within_no _ _ _ (by omega) _).mono ?_; rintro e w' ⟨rfl, rfl⟩
                  go_wp2_with fail
                  go_round
                  case rel => exact ⟨q + 1, by omega, by go_num, by rw [hbS.out, hv]⟩
                  case measure => simp [intOf]; omega
              · obtain rfl : q = 8 := by omega
                have h8 : beV (fun k => c / 2 ^ (7 - k) % 2) 8 = c := up8_is c hc
                have HT := Lib.hid (tk_succ s x k a 1 j c hjl hccH.out)
                have hz := tk_size s x k a 1 j
                rw [h8]
                generalize tk s x k a 1 j = T at *
                go_wp2_with fail
                refine (Word.char_any _ (by omega) _).mono ?_; rintro e w5 ⟨rfl, hb⟩
                have hb5 := Lib.hid (hB2H.out.trans (hb.mono hB2H.out.size))
                have hn5 := Lib.hid (hbuf2H.out.below hb)
                clear hb
                go_wp2_with fail
                go_roundw
                case rel => exact ⟨j + 1, by omega, by go_num, by rw [HT.out], hb5.out, hn5.out⟩
                case measure => simp [intOf]; omega
          · obtain rfl : j = s.size := by omega
            have hB2H := Lib.hid hB2
            clear hB2 hbuf2 hbufH
            rw [tk_all]
            go_wp2_with fail
            go_ret2
            exact ⟨rfl, hB2H.out⟩
end Go.Proofs.YtebjccenlfhilaaDoor.Bit
