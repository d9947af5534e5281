/-
  PROVED HERE: contracts of word.Put, Swap and of the document's WordPut, char, over every input, and that the law WordPuts returns true. Conditions: as each theorem states.
-/
import Derived.Test.YtebjccenlfhilaaDoorRows
import Derived.Test.YtebjccenlfhilaaDoorWordA
import Derived.Deep.OwnRows
import Derived.Deep.MidRow
import Derived.StillTailTactics
namespace Go.Proofs.YtebjccenlfhilaaDoor.Word
open Go.RowKit

theorem char_any (n : Int) (h0 : 0 ≤ n) (w : World) :
    Calls Tryd.prog 45 #[.int .u64 n] w fun e w' => e = .returned (.string ⟨#[UInt8.ofNat (n.toNat % 256)]⟩) ∧ Below w.heap.size w w' := by
  have hconv : (convert 81 9 (.slice (some ⟨w.heap.size, 0, none⟩) 1 1)).run Tryd.prog (w.alloc (.cells #[.int .u8 (n % 256)] 5)) = .ok (.string ⟨#[UInt8.ofNat (n.toNat % 256)]⟩) (w.alloc (.cells #[.int .u8 (n % 256)] 5)) := by
    refine run_convert_bytes_back _ _ _ 5 ⟨w.heap.size, 0, none⟩ 1 [UInt8.ofNat (n.toNat % 256)] Tryd.underlying81 Tryd.underlying5 Tryd.underlying9 ?_
    intro j hj
    obtain rfl : j = 0 := by simpa using hj
    have e : ((UInt8.ofNat (n.toNat % 256)).toNat : Int) = n % 256 := by
      rw [UInt8.toNat_ofNat']; omega
    simp [e, Addr.add]
    omega
  go_enter Tryd.func45, Tryd.ntmps45
  go_wp2
  go_ret
  exact ⟨rfl, (Below.refl _ _).alloc (Nat.le_refl _) _⟩

/-- byte k of a number, from the least on -/
def byN (n k : Nat) : UInt8 := UInt8.ofNat (n / 256 ^ k % 256)
/-- its low w bytes, the least first -/
def loB (n w : Nat) : List UInt8 := (List.range w).map (byN n)
def loS (n w : Nat) : ByteArray := ⟨(loB n w).toArray⟩
theorem loS_size (n w : Nat) : (loS n w).size = w := by show (loB n w).toArray.size = w; simp [loB]
theorem loS_succ (n w : Nat) : loS n (w + 1) = loS n w ++ ⟨#[UInt8.ofNat (n / 256 ^ w % 256)]⟩ := by
  apply ByteArray.ext
  unfold loS loB
  rw [List.range_succ, ByteArray.data_append]
  simp [byN]
theorem loS_at (n w k : Nat) (h : k < w) : byteAt (loS n w) k = n / 256 ^ k % 256 := by
  unfold loS
  rw [byteAt_list]
  simp [loB, h, byN, UInt8.toNat_ofNat']
/-- as bytes, in an order -/
def putS (n w o : Nat) : ByteArray := if o = 1 then Ref.rev (loS n w) else loS n w
theorem div_succ (n k : Nat) : ((n / 256 ^ (k + 1) : Nat) : Int) = ((n / 256 ^ k : Nat) : Int) / 256 := by
  rw [Nat.pow_succ, ← Nat.div_div_eq_div_mul]; rfl

set_option maxHeartbeats 400000 in
theorem docPut_yes (n w o : Nat) (hn : n < 18446744073709551616) (ho : o ≤ 1) (hok : ok w o) (hw : w ≤ 8) (W : World) :
    Calls Tryd.prog 24 #[.int .u64 n, .int .i64 w, .int .i64 o] W fun e w' => e = .returned (.tuple #[.string (putS n w o), .int .i64 0]) ∧ Below W.heap.size W w' := by
  have hokH := Lib.hid hok
  clear hok
  go_enter Tryd.func24, Tryd.ntmps24
  go_wp2_with fail
  refine (docRight_yes _ _ hokH.out _).mono ?_; rintro e w' ⟨rfl, rfl⟩
  go_wp2_with fail
  go_loopw [0, 8, 9] (fun m s i wr => ∃ k : Nat, k ≤ w ∧ i = .int .i64 k ∧ s = .string (loS n k) ∧ m = .int .u64 (n / 256 ^ k : Nat) ∧ Below W.heap.size W wr) (fun _ _ i _ => w - (intOf i).toNat)
  case atStart => exact ⟨0, Nat.zero_le _, rfl, rfl, by simp, Below.refl _ _⟩
  case round =>
    obtain ⟨k, hk, rfl, rfl, rfl, hB⟩ := hrel
    have hBH := Lib.hid hB
    clear hB
    by_cases hlt : k < w
    · have hz : (loS n k).size ≤ 8 := by rw [loS_size]; omega
      have HS := Lib.hid (loS_succ n k)
      have HD := Lib.hid (div_succ n k)
      have hd : n / 256 ^ k ≤ 18446744073709551615 := Nat.le_trans (Nat.div_le_self _ _) (by omega)
      generalize n / 256 ^ k = d at *
      go_wp2_with (go_at_call 45; refine (char_any _ (by omega) _).mono ?_; rintro e w' ⟨rfl, hb⟩; have hbH := Lib.hid (hBH.out.trans (hb.mono hBH.out.size)))
      clear hb
      go_roundw
      case rel => exact ⟨k + 1, by omega, by go_num, by rw [HS.out], by rw [HD.out], hbH.out⟩
      case measure => simp [intOf]; omega
    · obtain rfl : k = w := by omega
      rcases (show o = 0 ∨ o = 1 by omega) with rfl | rfl
      · go_wp2_with fail
        go_ret2
        exact ⟨by simp [putS], hBH.out⟩
      · have hz : (loS n k).size ≤ 1000000 := by rw [loS_size]; omega
        go_wp2_with fail
        refine (Ref.turn_any _ hz _).mono ?_; rintro e w' ⟨rfl, rfl⟩
        go_wp2_with fail
        go_ret2
        exact ⟨by simp [putS], hBH.out⟩
theorem docPut_arg (n w o : Int) (hok : ¬ ok w o) (W : World) :
    Calls Tryd.prog 24 #[.int .u64 n, .int .i64 w, .int .i64 o] W fun e w' => e = .returned (.tuple #[.string ⟨#[]⟩, .int .i64 1]) ∧ W = w' := by
  have hokH := Lib.hid hok
  clear hok
  go_enter Tryd.func24, Tryd.ntmps24
  go_wp2_with fail
  refine (docRight_no _ _ hokH.out _).mono ?_; rintro e w' ⟨rfl, rfl⟩
  go_wp2_with fail
  go_ret2
  exact ⟨rfl, rfl⟩
theorem put_arg (n w o : Int) (hok : ¬ ok w o) (W : World) :
    Calls Tryd.prog 25 #[.int .u64 n, .int .i64 w, .int .i64 o] W fun e w' => e = .returned (.tuple #[.string ⟨#[]⟩, .iface 28 (.int .i64 1)]) ∧ W = w' := by
  have hokH := Lib.hid hok
  clear hok
  go_enter Tryd.func25, Tryd.ntmps25
  go_wp2_with fail
  refine (right_no _ _ hokH.out _).mono ?_; rintro e w' ⟨rfl, rfl⟩
  go_wp2_with fail
  go_ret2
  exact ⟨rfl, rfl⟩

/-! ### the program's way -/
/-- a new block of n zero bytes -/
theorem buf_made (w : World) (n : Nat) : Buf (w.alloc (.cells (madeCells #[.int .u8 0] n) 5)) w.heap.size (List.replicate n 0) := by
  refine ⟨by simp, fun j hj => ⟨?_, ?_⟩⟩
  · have hj' : j < n := by simpa using hj
    rw [World.cell?_alloc_new]
    have := toList_madeCells_one (.int .u8 0) n
    rw [← Array.getElem?_toList, this]
    simp [hj']
  · rw [World.frozen?_alloc_mark]; simp
def half (n w o k : Nat) : List UInt8 := (List.range w).map fun i => if plc w o i < k then byN n (plc w o i) else 0
theorem half_len (n w o k : Nat) : (half n w o k).length = w := by simp [half]
theorem plc_plc (w o i : Nat) (h : i < w) : plc w o (plc w o i) = i := by unfold plc; split <;> omega
theorem plc_lt (w o i : Nat) (h : i < w) : plc w o i < w := by unfold plc; split <;> omega
theorem half_at (n w o k i : Nat) (h : i < (half n w o k).length) : (half n w o k)[i] = if plc w o i < k then byN n (plc w o i) else 0 := by
  simp [half]
theorem half_set (n w o k : Nat) (h : k < w) : (half n w o k).set (plc w o k) (byN n k) = half n w o (k + 1) := by
  apply List.ext_getElem
  · simp [half_len]
  · intro i h1 h2
    have hi : i < w := by simpa [half_len] using h1
    rw [List.getElem_set, half_at, half_at]
    by_cases e : plc w o k = i
    · subst e
      rw [if_pos rfl, plc_plc w o k h, if_pos (by omega)]
    · rw [if_neg e]
      have : plc w o i ≠ k := fun he => e (by rw [← he, plc_plc w o i hi])
      by_cases h3 : plc w o i < k
      · rw [if_pos h3, if_pos (by omega)]
      · rw [if_neg h3, if_neg (by omega)]
theorem half_zero (n w o : Nat) : half n w o 0 = List.replicate w 0 := by
  apply List.ext_getElem
  · simp [half_len]
  · intro i h1 h2
    simp [half]
theorem half_all (n w o : Nat) (ho : o ≤ 1) : (⟨(half n w o w).toArray⟩ : ByteArray) = putS n w o := by
  apply ByteArray.ext
  apply Array.ext'
  apply List.ext_getElem
  · have e : (putS n w o).size = w := by
      unfold putS; split
      · rw [Ref.rev_size, loS_size]
      · rw [loS_size]
    have e2 : (putS n w o).data.toList.length = w := e
    simp [half_len] at *
    omega
  · intro i h1 h2
    have hi : i < w := by simpa [half_len] using h1
    have hl : plc w o i < w := plc_lt w o i hi
    have e1 : (half n w o w)[i]'(by rw [half_len]; exact hi) = byN n (plc w o i) := by simp [half, hl]
    show (half n w o w)[i]'_ = _
    rw [e1]
    rcases (show o = 0 ∨ o = 1 by omega) with rfl | rfl
    · simp [putS, loS, loB, plc]
    · simp [putS, Ref.rev, loS, loB, plc]

set_option maxRecDepth 100000 in
set_option maxHeartbeats 800000 in
theorem put_yes (n w o : Nat) (hn : n < 18446744073709551616) (ho : o ≤ 1) (hok : ok w o) (hw : w ≤ 8) (W : World) :
    Calls Tryd.prog 25 #[.int .u64 n, .int .i64 w, .int .i64 o] W fun e w' => e = .returned (.tuple #[.string (putS n w o), .nilIface]) ∧ Below W.heap.size W w' := by
  have hokH := Lib.hid hok
  clear hok
  have hmk := fun W => run_make_row' (P := Tryd.prog) 81 5 (.int .u8 0) 1 Tryd.underlying81 (by kernel_rfl) rfl .i64 .i64 w (by omega) (by omega) W
  go_enter Tryd.func25, Tryd.ntmps25
  go_wp2_with fail
  refine (right_yes _ _ hokH.out _).mono ?_; rintro e w' ⟨rfl, rfl⟩
  go_wp2_with fail
  go_loopw [18] (fun i wr => ∃ k : Nat, k ≤ w ∧ i = .int .i64 k ∧ Below W.heap.size W wr ∧ Buf wr W.heap.size (half n w o k)) (fun i _ => w - (intOf i).toNat)
  case atStart =>
    refine ⟨0, Nat.zero_le _, rfl, (Below.refl _ _).alloc (Nat.le_refl _) _, ?_⟩
    rw [half_zero]; exact buf_made W w
  case round =>
    obtain ⟨k, hk, rfl, hB, hbuf⟩ := hrel
    have hBH := Lib.hid hB
    clear hB hmk
    by_cases hlt : k < w
    · have hp := plc_lt w o k hlt
      have C := Lib.hid (fun W => place_any k w o ho hlt hw W)
      have HS := Lib.hid (half_set n w o k hlt)
      have hg := hbuf.1
      have hfz := (hbuf.2 (plc w o k) (by rw [half_len]; exact hp)).2
      obtain ⟨c0, hcell⟩ : ∃ v, wr.cell? ⟨W.heap.size, plc w o k, none⟩ = some v := ⟨_, (hbuf.2 (plc w o k) (by rw [half_len]; exact hp)).1⟩
      have hbufH := Lib.hid hbuf
      clear hbuf
      have hlen := Lib.hid (half_len n w o k)
      generalize plc w o k = p at *
      have i1 : (0 : Int) ≤ (p : Int) := by omega
      have i2 : (p : Int) < (w : Int) := by omega
      have s0 : IntKind.i64.wrap (8 * (k : Int)) = 8 * (k : Int) := IntWalk.i64_in _ (by omega)
      have s1 : (0 : Int) ≤ 8 * (k : Int) := by omega
      have s2 : 8 * (k : Int) < 64 := by omega
      have hv : ((n : Int) / 2 ^ (8 * (k : Int)).toNat) = ((n / 256 ^ k : Nat) : Int) := by
        rw [show (8 * (k : Int)).toNat = 8 * k from by omega, Int.pow_mul]
        simp
      have hby : ((byN n k).toNat : Int) = ((n / 256 ^ k : Nat) : Int) % 256 := by
        rw [byN, UInt8.toNat_ofNat']; simp
      have hby := Lib.hid hby
      generalize n / 256 ^ k = d at *
      go_wp2_with fail
      refine wp_region_still_tail 11 (by kernel_rfl) (by kernel_rfl) ?_
      simp only [List.take_succ_cons, List.take_zero, List.drop_succ_cons, List.drop_zero]
      repeat still_step
      still_call ((C.out _).mono fun _ _ ⟨he, hw⟩ => ⟨he, hw.symm⟩)
      repeat still_step
      refine wpStill_nil ?_
      go_wp2_with fail
      go_roundw
      case rel =>
        refine ⟨k + 1, by omega, by go_num, ?_, ?_⟩
        · exact Below.drew ((hBH.out).setCell (p := ⟨W.heap.size, p, none⟩) (Nat.le_refl _) _)
        · have := hbufH.out.set_ p (byN n k) (by rw [hlen.out]; exact hp)
          rw [HS.out] at this
          rw [hby.out] at this
          exact this
      case measure => simp [intOf]; omega
    · obtain rfl : k = w := by omega
      have hback : (convert 81 9 (.slice (some ⟨W.heap.size, 0, none⟩) k k)).run Tryd.prog wr = .ok (.string (putS n k o)) wr := by
        have := run_convert_bytes_back (P := Tryd.prog) wr 81 9 5 ⟨W.heap.size, 0, none⟩ k (half n k o k) Tryd.underlying81 Tryd.underlying5 Tryd.underlying9
          (fun j hj => by
            have h := (hbuf.2 j hj).1
            rw [Addr.add_mid, Nat.zero_add]; exact h)
        rw [half_len, half_all n k o ho] at this
        exact this
      clear hbuf
      go_wp2_with fail
      go_ret2
      exact ⟨rfl, hBH.out⟩

/-! ### turned round -/
/-- A number of w bytes, in the other order. -/
def swp (n w : Nat) : Nat := leV (src (loS n w) 0 w 1) w
theorem swap_yes (n w : Nat) (hn : n < 18446744073709551616) (hok : ok w 0) (hw : w ≤ 8) (hw1 : 1 ≤ w) (W : World) :
    Calls Tryd.prog 26 #[.int .u64 n, .int .i64 w] W fun e w' => e = .returned (.tuple #[.int .u64 (swp n w : Nat), .nilIface]) ∧ Below W.heap.size W w' := by
  have hok1 : ok w 1 := ⟨hok.1, .inr rfl⟩
  have hz := loS_size n w
  have C1 := Lib.hid (fun W => put_yes n w 0 hn (by omega) hok hw W)
  have C2 := Lib.hid (fun W => get_yes (loS n w) 0 w 1 (by omega) hok1 hw hw1 (by omega) (by omega) W)
  have e0 : putS n w 0 = loS n w := by simp [putS]
  rw [e0] at C1
  clear hok hok1 hz e0
  go_enter Tryd.func26, Tryd.ntmps26
  go_wp2_with fail
  refine (C1.out _).mono ?_; rintro e w' ⟨rfl, hb⟩
  have hbH := Lib.hid hb
  clear hb
  go_wp2_with fail
  refine (C2.out _).mono ?_; rintro e w' ⟨rfl, rfl⟩
  go_wp2_with fail
  go_ret2
  exact ⟨rfl, hbH.out⟩
theorem swap_arg (n w : Int) (hok : ¬ ok w 0) (W : World) :
    Calls Tryd.prog 26 #[.int .u64 n, .int .i64 w] W fun e w' => e = .returned (.tuple #[.int .u64 0, .iface 28 (.int .i64 1)]) ∧ W = w' := by
  have C1 := Lib.hid (fun W => put_arg n w 0 hok W)
  clear hok
  go_enter Tryd.func26, Tryd.ntmps26
  go_wp2_with fail
  refine (C1.out _).mono ?_; rintro e w' ⟨rfl, rfl⟩
  go_wp2_with fail
  go_ret2
  exact ⟨rfl, rfl⟩
theorem of_same {P : Program} {f : FuncId} {args : Array Value} {w : World} {v : Value} (h : Calls P f args w fun e w' => e = .returned v ∧ w = w') : Calls P f args w fun e w' => e = .returned v ∧ Below w.heap.size w w' :=
  h.mono fun _ _ ⟨he, hw⟩ => ⟨he, by subst hw; exact Below.refl _ _⟩

set_option maxHeartbeats 800000 in
theorem wordPuts_walk (a0 a1 a2 : Int) (w0 : (Lit.int .u64 a0).wf = true) (W : World) (hg : Err.Home W) :
    Calls Tryd.prog 8 #[.int .u64 a0, .int .i64 a1, .int .i64 a2] W fun e w' => e = .returned (.bool true) ∧ Below W.heap.size W w' := by
  obtain ⟨b0, b1⟩ := bounds_u64 w0
  obtain ⟨n, rfl⟩ := Int.eq_ofNat_of_zero_le b0
  clear w0
  have main : ∀ (s : ByteArray) (x : Value) (c : Int) (v : Int) (s0 : ByteArray) (y : Value) (d : Int) (g : Int),
      (∀ W', Calls Tryd.prog 24 #[.int .u64 n, .int .i64 a1, .int .i64 a2] W' fun e w' => e = .returned (.tuple #[.string s, .int .i64 c]) ∧ Below W'.heap.size W' w') →
      (∀ W', Calls Tryd.prog 25 #[.int .u64 n, .int .i64 a1, .int .i64 a2] W' fun e w' => e = .returned (.tuple #[.string s, x]) ∧ Below W'.heap.size W' w') →
      (∀ W', Calls Tryd.prog 26 #[.int .u64 n, .int .i64 a1] W' fun e w' => e = .returned (.tuple #[.int .u64 v, y]) ∧ Below W'.heap.size W' w') →
      (∀ W', Calls Tryd.prog 24 #[.int .u64 n, .int .i64 a1, .int .i64 0] W' fun e w' => e = .returned (.tuple #[.string s0, .int .i64 d]) ∧ Below W'.heap.size W' w') →
      (∀ W', Calls Tryd.prog 13 #[.string s0, .int .i64 0, .int .i64 a1, .int .i64 1] W' fun e w' => e = .returned (.tuple #[.int .u64 v, .int .i64 g]) ∧ W' = w') →
      (∀ w', Err.ErrIs w' x c (-1)) → (∀ w', Err.ErrIs w' y d (-1)) →
      Calls Tryd.prog 8 #[.int .u64 n, .int .i64 a1, .int .i64 a2] W fun e w' => e = .returned (.bool true) ∧ Below W.heap.size W w' := by
    intro s x c v s0 y d g c1 c2 c3 c4 c5 hx hy
    have C1 := Lib.hid c1
    have C2 := Lib.hid c2
    have C3 := Lib.hid c3
    have C4 := Lib.hid c4
    have C5 := Lib.hid c5
    have HX := Lib.hid hx
    have HY := Lib.hid hy
    have HG := Lib.hid hg
    clear c1 c2 c3 c4 c5 hx hy hg
    go_enter Tryd.func8, Tryd.ntmps8
    go_wp2_with fail
    refine (C1.out _).mono ?_; rintro e w1 ⟨rfl, h1⟩
    have H1 := Lib.hid h1
    clear h1
    go_wp2_with fail
    refine (C2.out _).mono ?_; rintro e w2 ⟨rfl, h2⟩
    have H2 := Lib.hid (H1.out.trans (h2.mono H1.out.size))
    clear h2
    go_wp2_with fail
    refine (C3.out _).mono ?_; rintro e w3 ⟨rfl, h3⟩
    have H3 := Lib.hid (H2.out.trans (h3.mono H2.out.size))
    clear h3
    go_wp2_with fail
    refine (C4.out _).mono ?_; rintro e w4 ⟨rfl, h4⟩
    have H4 := Lib.hid (H3.out.trans (h4.mono H3.out.size))
    clear h4
    go_wp2_with fail
    refine (C5.out _).mono ?_; rintro e w5 ⟨rfl, rfl⟩
    go_wp2_with fail
    refine (Err.bare_any x c (-1) c _ (HG.out.below H4.out) (HX.out _)).mono ?_; rintro e w6 ⟨rfl, h6⟩
    have H6 := Lib.hid (H4.out.trans (h6.mono H4.out.size))
    clear h6
    go_wp2_with fail
    refine (Err.bare_any y d (-1) d _ (HG.out.below H6.out) (HY.out _)).mono ?_; rintro e w7 ⟨rfl, h7⟩
    have H7 := Lib.hid (H6.out.trans (h7.mono H6.out.size))
    clear h7
    go_wp2_with fail
    go_ret
    exact ⟨ret_bool (by simp), H7.out⟩
  have e1 : ∀ w', Err.ErrIs w' (.iface 28 (.int .i64 1)) 1 (-1) := fun _ => .inr (.inl ⟨rfl, rfl⟩)
  have e0 : ∀ w', Err.ErrIs w' .nilIface 0 (-1) := fun _ => .inl ⟨rfl, rfl, rfl⟩
  by_cases hw : a1 = 1 ∨ a1 = 2 ∨ a1 = 4 ∨ a1 = 8
  · have k0 : ok a1 0 := ⟨hw, .inl rfl⟩
    have k1 : ok a1 1 := ⟨hw, .inr rfl⟩
    obtain ⟨w, rfl⟩ := Int.eq_ofNat_of_zero_le (show 0 ≤ a1 by omega)
    have hw8 : w ≤ 8 := by omega
    have hw1 : 1 ≤ w := by omega
    have hz := loS_size n w
    have ez : putS n w 0 = loS n w := by simp [putS]
    have c3 := fun W' => swap_yes n w (by omega) k0 hw8 hw1 W'
    have c4 := fun W' => docPut_yes n w 0 (by omega) (by omega) k0 hw8 W'
    rw [ez] at c4
    have c5 := fun W' => docGet_yes (loS n w) 0 w 1 (by omega) k1 hw8 hw1 (by omega) (by omega) W'
    by_cases ho : a2 = 0 ∨ a2 = 1
    · obtain ⟨o, rfl⟩ := Int.eq_ofNat_of_zero_le (show 0 ≤ a2 by omega)
      exact main (putS n w o) .nilIface 0 _ _ .nilIface 0 _ (fun W' => docPut_yes n w o (by omega) (by omega) ⟨hw, ho⟩ hw8 W') (fun W' => put_yes n w o (by omega) (by omega) ⟨hw, ho⟩ hw8 W') c3 c4 c5 e0 e0
    · have hno : ¬ ok (w : Int) a2 := fun h => ho h.2
      exact main ⟨#[]⟩ _ 1 _ _ .nilIface 0 _ (fun W' => of_same (docPut_arg n w a2 hno W')) (fun W' => of_same (put_arg n w a2 hno W')) c3 c4 c5 e1 e0
  · have k0 : ¬ ok a1 0 := fun h => hw h.1
    have k1 : ¬ ok a1 1 := fun h => hw h.1
    have k2 : ¬ ok a1 a2 := fun h => hw h.1
    exact main ⟨#[]⟩ _ 1 0 ⟨#[]⟩ _ 1 1 (fun W' => of_same (docPut_arg n a1 a2 k2 W')) (fun W' => of_same (put_arg n a1 a2 k2 W')) (fun W' => of_same (swap_arg n a1 k0 W')) (fun W' => of_same (docPut_arg n a1 0 k0 W')) (fun W' => docGet_arg ⟨#[]⟩ 0 a1 1 k1 W') e1 e1
end Go.Proofs.YtebjccenlfhilaaDoor.Word
