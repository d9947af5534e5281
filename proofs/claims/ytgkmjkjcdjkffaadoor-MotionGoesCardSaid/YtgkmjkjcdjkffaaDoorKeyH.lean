/-
  PROVED HERE: the contract of the document's KeysParse. Conditions: as each theorem states.
-/
import Derived.Test.YtgkmjkjcdjkffaaDoorKeyG
namespace Go.Proofs.YtgkmjkjcdjkffaaDoor.Key
open Go.RowKit
def KP (s : ByteArray) (W : World) (e : Ending) (w' : World) : Prop := e = .returned (.tuple #[Cv (kp (lst s)).1, .int .i64 (kp (lst s)).2.1, .int .i64 (kp (lst s)).2.2]) ∧ Below W.heap.size W w'
def Z5 : Obj := .cells #[.int .u8 0, .int .i64 0, .int .u8 0, .int .u8 0, .string ⟨#[]⟩] 26
/-- The block of the result, as at first. -/
def Rz (W wr : World) : Prop := Below (W.heap.size + 1) (W.alloc Z5) wr
theorem Rz.cells {W wr : World} (h : Rz W wr) : wr.cell? ⟨W.heap.size, 0, none⟩ = some (.int .u8 0) ∧ wr.cell? ⟨W.heap.size, 1, none⟩ = some (.int .i64 0) ∧ wr.cell? ⟨W.heap.size, 2, none⟩ = some (.int .u8 0) ∧ wr.cell? ⟨W.heap.size, 3, none⟩ = some (.int .u8 0) ∧ wr.cell? ⟨W.heap.size, 4, none⟩ = some (.string ⟨#[]⟩) := by
  have k : ∀ j, wr.cell? ⟨W.heap.size, j, none⟩ = (W.alloc Z5).cell? ⟨W.heap.size, j, none⟩ := fun j => Below.cell h (p := ⟨W.heap.size, j, none⟩) (Nat.lt_succ_self _)
  refine ⟨?_, ?_, ?_, ?_, ?_⟩ <;> rw [k] <;> unfold Z5 <;> simp
theorem Rz.frozen {W wr : World} (h : Rz W wr) (j : Nat) : wr.frozen? ⟨W.heap.size, j, none⟩ = false := by
  rw [Below.frozen h (p := ⟨W.heap.size, j, none⟩) (Nat.lt_succ_self _)]
  unfold Z5
  simp
theorem Rz.below {W wr : World} (h : Rz W wr) : Below W.heap.size W wr := ((Below.refl _ _).alloc (Nat.le_refl _) _).trans (Below.mono h (Nat.le_succ _))
theorem Rz.size {W wr : World} (h : Rz W wr) : W.heap.size + 1 ≤ wr.heap.size := by have := Below.size h; simpa using this
theorem Rz.next {W wr w1 : World} (h : Rz W wr) (g : Below wr.heap.size wr w1) : Rz W w1 := Below.trans h (g.mono h.size)
theorem Rz.alloc {W wr : World} (h : Rz W wr) (o : Obj) : Rz W (wr.alloc o) := Below.alloc h h.size o
theorem parse_end (s : ByteArray) (W : World) (a : Act) (w : World) (c : Cm) (n k : Nat) (v4 : Value) (hv : v4 = .string ⟨c.arg.toArray⟩) (hk : kp (lst s) = (c, n, k)) (hB : Rz W w) (hd : a.defers = []) (h2 : a.tmps.getD 2 undef = .pointer (some ⟨W.heap.size, 0, none⟩)) (h3 : a.tmps.getD 3 undef = .int .i64 n) (h4 : a.tmps.getD 4 undef = .int .i64 k) :
    bodyPost Tryd.prog Tryd.f4 (KP s W) .ret a (put5 w W.heap.size (.int .u8 c.reg.toNat) (.int .i64 c.n) (.int .u8 c.op.toNat) (.int .u8 c.move.toNat) v4) := by
  subst hv
  obtain ⟨r0, r1, r2, r3, r4⟩ := hB.cells
  obtain ⟨c0, c1, c2, c3, c4⟩ := set5 (v0 := .int .u8 c.reg.toNat) (v1 := .int .i64 c.n) (v2 := .int .u8 c.op.toNat) (v3 := .int .u8 c.move.toNat) (v4 := .string ⟨c.arg.toArray⟩) r0 r1 r2 r3 r4
  exact ⟨hd, _, parse_results a.tmps _ W.heap.size _ _ _ _ _ h2 c0 c1 c2 c3 c4, by rw [h3, h4]; exact ⟨by rw [hk]; rfl, put5_below hB.below (Nat.le_refl _) _ _ _ _ _⟩⟩
theorem lst_take (s : ByteArray) (k : Nat) (_h : k ≤ s.size) : lst (s.extract 0 k) = (lst s).take k := by
  unfold lst
  rw [ByteArray.data_extract, Array.toList_extract, List.extract_eq_take_drop]
  simp
def KR (s : ByteArray) (W : World) (i : Value) (wr : World) : Prop :=
  ∃ k : Nat, 1 ≤ k ∧ k ≤ s.size + 1 ∧ i = .int .i64 k ∧ Hid (pp ((lst s).take (k - 1)) = .more) ∧ Hid (Rz W wr)
set_option maxRecDepth 100000 in
set_option maxHeartbeats 4000000 in
theorem docParse_any (s : ByteArray) (hs : s.size ≤ 500) (W : World) : Calls Tryd.prog 4 #[.string s] W (KP s W) := by
  go_enter Tryd.func4, Tryd.ntmps4
  go_wp2_with fail
  go_loopw [5] (fun i wr => KR s W i wr) (fun i _ => s.size + 1 - (intOf i).toNat)
  case atStart => exact ⟨1, Nat.le_refl _, by omega, rfl, Lib.hid rfl, Lib.hid (Below.refl _ _)⟩
  case round =>
    obtain ⟨k, hk1, hk2, rfl, hm, hR⟩ := hrel
    by_cases hlt : k ≤ s.size
    · have ST := Lib.hid (step_k (lst s) k hk1 hlt hm.out)
      have F1 := fullCmd_any (s.extract 0 k) (by rw [ByteArray.size_extract]; omega)
      have M1 := mayCmd_any (s.extract 0 k) (by rw [ByteArray.size_extract]; omega)
      have e1 : (s.extract 0 (k - 1)).size = k - 1 := by rw [ByteArray.size_extract]; omega
      have F2 := fullCmd_any (s.extract 0 (k - 1) ++ ⟨#[48, 48]⟩) (by rw [ByteArray.size_append, e1]; show k - 1 + 2 ≤ 1000; omega)
      have F3 := fullCmd_any (s.extract 0 (k - 1) ++ ⟨#[48]⟩) (by rw [ByteArray.size_append, e1]; show k - 1 + 1 ≤ 1000; omega)
      unfold FP at F1 F2 F3
      rw [lst_take s k hlt] at F1 M1
      rw [lst_app, lst_take s (k - 1) (by omega)] at F2 F3
      have a2 : lst ⟨#[48, 48]⟩ = [48, 48] := rfl
      have a3 : lst ⟨#[48]⟩ = [48] := rfl
      rw [a2] at F2
      rw [a3] at F3
      have i1 : (1 : Int) ≤ (k : Int) := by omega
      have i2 : (k : Int) ≤ (s.size : Int) := by omega
      have z1 : IntKind.i64.wrap ((k : Int) - 1) = ((k - 1 : Nat) : Int) := by rw [IntWalk.i64_in _ (by omega)]; omega
      have F1H := Lib.hid F1
      have M1H := Lib.hid M1
      have F2H := Lib.hid F2
      have F3H := Lib.hid F3
      clear F1 M1 F2 F3 a2 a3
      rcases ST.out with ⟨s1, s2⟩ | ⟨s1, s2, s3⟩ | ⟨s1, s2, s3⟩
      · have KH := Lib.hid s2
        have F1 := F1H.out
        rw [s1] at F1
        generalize (fc ((lst s).take k)).1 = c at *
        clear F1H
        have F1H := Lib.hid F1
        clear s1 s2 F1 ST M1H F2H F3H
        unfold Cv at F1H
        go_wp2_with fail
        refine (F1H.out _).mono ?_; rintro e w1 ⟨rfl, g⟩
        have R1 := Lib.hid ((hR.out.next g).alloc (.cells #[.int .u8 c.reg.toNat, .int .i64 c.n, .int .u8 c.op.toNat, .int .u8 c.move.toNat, .string ⟨c.arg.toArray⟩] 26))
        obtain ⟨r0, r1, r2, r3, r4⟩ := (R1.out).cells
        have f0 := (R1.out).frozen 0
        have f1 := (R1.out).frozen 1
        have f2 := (R1.out).frozen 2
        have f3 := (R1.out).frozen 3
        have f4 := (R1.out).frozen 4
        clear g
        go_wp2_with fail
        exact parse_end s W _ _ c k 1 _ rfl KH.out R1.out rfl rfl rfl rfl
      · have F1 := F1H.out
        have M1 := M1H.out
        have hmay : may ((lst s).take k) = true := by
          unfold may
          rw [List.any_eq_true]
          exact s3
        rw [s1] at F1
        rw [hmay] at M1
        have hN := Lib.hid (show pp ((lst s).take (k + 1 - 1)) = .more by rw [Nat.add_sub_cancel]; exact s2)
        generalize (fc ((lst s).take k)).1 = c at *
        clear F1H M1H
        have F1H := Lib.hid F1
        have M1H := Lib.hid M1
        clear s1 s2 s3 F1 M1 ST hmay F2H F3H
        unfold Cv at F1H
        go_wp2_with fail
        refine (F1H.out _).mono ?_; rintro e w1 ⟨rfl, g⟩
        have R1 := Lib.hid ((hR.out.next g).alloc (.cells #[.int .u8 c.reg.toNat, .int .i64 c.n, .int .u8 c.op.toNat, .int .u8 c.move.toNat, .string ⟨c.arg.toArray⟩] 26))
        clear g
        go_wp2_with fail
        refine (M1H.out _).mono ?_; rintro e w2 ⟨rfl, g⟩
        have R2 := Lib.hid (R1.out.next g)
        clear g
        go_wp2_with fail
        go_roundw
        case rel => first | exact ⟨k + 1, by omega, by omega, by go_num, hN, R2⟩ | ((repeat apply Exists.intro); exact ⟨⟨k + 1, by omega, by omega, by go_num, hN, R2⟩, rfl⟩)
        case measure => simp [intOf]; omega
      · rcases s3 with ⟨q1, q2, ⟨key, q3a, q3b⟩, q4, q5⟩ | ⟨q1, q5⟩
        · skip
          have F1 := F1H.out
          have M1 := M1H.out
          have F2 := F2H.out
          have hmay : may ((lst s).take k) = false := by
            rcases hb : may ((lst s).take k) with _ | _
            · rfl
            · unfold may at hb
              rw [List.any_eq_true] at hb
              obtain ⟨e, he, h⟩ := hb
              rw [s2 e he] at h
              cases h
          rw [s1] at F1
          rw [hmay] at M1
          rw [q1] at F2
          generalize (fc ((lst s).take k)).1 = c at *
          generalize (fc ((lst s).take (k - 1) ++ [48, 48])).1 = c' at *
          clear F1H M1H F2H
          have F1H := Lib.hid F1
          have M1H := Lib.hid M1
          have F2H := Lib.hid F2
          have KH := Lib.hid q5
          have l1 : ¬ 9223372036854775807 < (k - 1) + 2 := by omega
          have i3 : (0 : Int) ≤ ((k - 1 : Nat) : Int) := by omega
          have i4 : ((k - 1 : Nat) : Int) ≤ (s.size : Int) := by omega
          have F3 := F3H.out
          rw [q4] at F3
          generalize (fc ((lst s).take (k - 1) ++ [48])).1 = c'' at *
          clear F3H
          have F3H := Lib.hid F3
          have l2 : ¬ 9223372036854775807 < (k - 1) + 1 := by omega
          have i5 : (1 : Int) < (k : Int) := by omega
          have z2 : IntKind.i64.wrap ((k : Int) - 2) = ((k - 2 : Nat) : Int) := by rw [IntWalk.i64_in _ (by omega)]; omega
          have z3 : IntKind.i64.wrap ((k : Int) + 1) = ((k + 1 : Nat) : Int) := by rw [IntWalk.i64_in _ (by omega)]; omega
          have i6 : k - 2 < s.size := by omega
          have hkey : (s[k - 2]'i6) = key := by
            have h1 : (lst s)[k - 2]? = some (s[k - 2]'i6) := by
              unfold lst
              rw [List.getElem?_eq_getElem (show k - 2 < s.data.toList.length from i6)]
              rfl
            rw [q3a] at h1
            exact (Option.some.inj h1).symm
          obtain ⟨z, hz, IX⟩ := ix_ex ⟨#[102, 114]⟩ (s[k - 2]'i6) _ (ix_fr _)
          rw [hkey, q3b] at hz
          have hz2 : 0 ≤ z := by simpa using hz
          have IXH := Lib.hid IX
          clear hz IX hkey q3a q3b q4 F3
          unfold Cv at F3H
          clear s1 s2 q1 q5 F1 M1 F2 ST hmay
          unfold Cv at F1H F2H
          go_wp2_with fail
          refine (F1H.out _).mono ?_; rintro e w1 ⟨rfl, g⟩
          have R1 := Lib.hid ((hR.out.next g).alloc (.cells #[.int .u8 c.reg.toNat, .int .i64 c.n, .int .u8 c.op.toNat, .int .u8 c.move.toNat, .string ⟨c.arg.toArray⟩] 26))
          clear g
          go_wp2_with fail
          refine (M1H.out _).mono ?_; rintro e w2 ⟨rfl, g⟩
          have R2 := Lib.hid (R1.out.next g)
          clear g
          go_wp2_with fail
          refine (F2H.out _).mono ?_; rintro e w3 ⟨rfl, g⟩
          have R3 := Lib.hid ((R2.out.next g).alloc (.cells #[.int .u8 c'.reg.toNat, .int .i64 c'.n, .int .u8 c'.op.toNat, .int .u8 c'.move.toNat, .string ⟨c'.arg.toArray⟩] 26))
          clear g
          go_wp2_with fail
          refine (IXH.out _).mono ?_; rintro e w4 ⟨rfl, rfl⟩
          go_wp2_with fail
          refine (F3H.out _).mono ?_; rintro e w5 ⟨rfl, g⟩
          have R5 := Lib.hid ((R3.out.next g).alloc (.cells #[.int .u8 c''.reg.toNat, .int .i64 c''.n, .int .u8 c''.op.toNat, .int .u8 c''.move.toNat, .string ⟨c''.arg.toArray⟩] 26))
          clear g
          obtain ⟨r0, r1, r2, r3, r4⟩ := (R5.out).cells
          have f0 := (R5.out).frozen 0
          have f1 := (R5.out).frozen 1
          have f2 := (R5.out).frozen 2
          have f3 := (R5.out).frozen 3
          have f4 := (R5.out).frozen 4
          go_wp2_with fail
          exact parse_end s W _ _ cm0 (min (k + 1) (lst s).length) 2 _ rfl KH.out R5.out rfl rfl (by first | rfl | (show Value.int _ _ = Value.int _ _; congr 1; rw [lst_len]; omega)) rfl
        · skip
          have F1 := F1H.out
          have M1 := M1H.out
          have F2 := F2H.out
          have hmay : may ((lst s).take k) = false := by
            rcases hb : may ((lst s).take k) with _ | _
            · rfl
            · unfold may at hb
              rw [List.any_eq_true] at hb
              obtain ⟨e, he, h⟩ := hb
              rw [s2 e he] at h
              cases h
          rw [s1] at F1
          rw [hmay] at M1
          rw [q1] at F2
          generalize (fc ((lst s).take k)).1 = c at *
          generalize (fc ((lst s).take (k - 1) ++ [48, 48])).1 = c' at *
          clear F1H M1H F2H
          have F1H := Lib.hid F1
          have M1H := Lib.hid M1
          have F2H := Lib.hid F2
          have KH := Lib.hid q5
          have l1 : ¬ 9223372036854775807 < (k - 1) + 2 := by omega
          have i3 : (0 : Int) ≤ ((k - 1 : Nat) : Int) := by omega
          have i4 : ((k - 1 : Nat) : Int) ≤ (s.size : Int) := by omega
          clear s1 s2 q1 q5 F1 M1 F2 ST hmay
          unfold Cv at F1H F2H
          go_wp2_with fail
          refine (F1H.out _).mono ?_; rintro e w1 ⟨rfl, g⟩
          have R1 := Lib.hid ((hR.out.next g).alloc (.cells #[.int .u8 c.reg.toNat, .int .i64 c.n, .int .u8 c.op.toNat, .int .u8 c.move.toNat, .string ⟨c.arg.toArray⟩] 26))
          clear g
          go_wp2_with fail
          refine (M1H.out _).mono ?_; rintro e w2 ⟨rfl, g⟩
          have R2 := Lib.hid (R1.out.next g)
          clear g
          go_wp2_with fail
          refine (F2H.out _).mono ?_; rintro e w3 ⟨rfl, g⟩
          have R3 := Lib.hid ((R2.out.next g).alloc (.cells #[.int .u8 c'.reg.toNat, .int .i64 c'.n, .int .u8 c'.op.toNat, .int .u8 c'.move.toNat, .string ⟨c'.arg.toArray⟩] 26))
          clear g
          obtain ⟨r0, r1, r2, r3, r4⟩ := (R3.out).cells
          have f0 := (R3.out).frozen 0
          have f1 := (R3.out).frozen 1
          have f2 := (R3.out).frozen 2
          have f3 := (R3.out).frozen 3
          have f4 := (R3.out).frozen 4
          go_wp2_with fail
          exact parse_end s W _ _ cm0 k 2 _ rfl KH.out R3.out rfl rfl rfl rfl
    · obtain rfl : k = s.size + 1 := by omega
      have hm2 := hm.out
      rw [Nat.add_sub_cancel, List.take_of_length_le (by rw [lst_len]; exact Nat.le_refl _)] at hm2
      have KH := Lib.hid (kp_all _ hm2)
      obtain ⟨r0, r1, r2, r3, r4⟩ := (hR.out).cells
      have f0 := (hR.out).frozen 0
      have f1 := (hR.out).frozen 1
      have f2 := (hR.out).frozen 2
      have f3 := (hR.out).frozen 3
      have f4 := (hR.out).frozen 4
      clear hm hm2
      go_wp2_with fail
      exact parse_end s W _ _ cm0 (lst s).length 0 _ rfl KH.out hR.out rfl rfl rfl rfl
end Go.Proofs.YtgkmjkjcdjkffaaDoor.Key
