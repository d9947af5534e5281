/-
  PROVED HERE: contracts of text.is and of the document's isSign and signBytes. Conditions: as each theorem states.
-/
import Derived.Test.YtifnochpmlllgaaDoorChr
import Derived.Test.YtifnochpmlllgaaDoorPow
import Derived.Test.YtifnochpmlllgaaDoorRef
import Derived.Deep.RegionWith
namespace Go.Proofs.YtifnochpmlllgaaDoor.Enc
open Go.RowKit
attribute [local go_sem ↓] Go.wp_at_zero Go.wp_at_succ

/-- What a sign is. -/
def sgn (r : Int) : Prop := (0 ≤ r ∧ r ≤ 55295) ∨ (57344 ≤ r ∧ r ≤ 1114111)
theorem is_yes (r : Int) (h : sgn r) (W : World) : Calls Tryd.prog 78 #[.int .i64 r] W fun e w' => e = .returned (.bool true) ∧ W = w' := by
  rcases h with ⟨h1, h2⟩ | ⟨h1, h2⟩
  · have h3 : r ≤ 1114111 := by omega
    have h4 : r < 55296 := by omega
    go_enter Tryd.func78, Tryd.ntmps78
    go_wp2_with fail
    go_ret
    exact ⟨ret_bool (by simp), rfl⟩
  · have h3 : 0 ≤ r := by omega
    have h4 : ¬ r < 55296 := by omega
    have h5 : 57343 < r := by omega
    go_enter Tryd.func78, Tryd.ntmps78
    go_wp2_with fail
    go_ret
    exact ⟨ret_bool (by simp), rfl⟩
theorem is_no (r : Int) (h : ¬ sgn r) (W : World) : Calls Tryd.prog 78 #[.int .i64 r] W fun e w' => e = .returned (.bool false) ∧ W = w' := by
  unfold sgn at h
  rcases (show r < 0 ∨ (0 ≤ r ∧ 1114111 < r) ∨ (0 ≤ r ∧ r ≤ 1114111 ∧ ¬ r < 55296 ∧ ¬ 57343 < r) by omega) with h1 | ⟨h1, h2⟩ | ⟨h1, h2, h3, h4⟩
  all_goals
    clear h
    go_enter Tryd.func78, Tryd.ntmps78
    go_wp2_with fail
    go_ret
    exact ⟨ret_bool (by simp), rfl⟩
theorem isSign_yes (r : Int) (h : sgn r) (W : World) : Calls Tryd.prog 76 #[.int .i64 r] W fun e w' => e = .returned (.bool true) ∧ W = w' := by
  rcases h with ⟨h1, h2⟩ | ⟨h1, h2⟩
  · go_enter Tryd.func76, Tryd.ntmps76
    go_wp2_with fail
    refine (Ref.within_yes _ _ _ h1 h2 _).mono ?_; rintro e w' ⟨rfl, rfl⟩
    go_wp2_with fail
    go_ret
    exact ⟨rfl, rfl⟩
  · go_enter Tryd.func76, Tryd.ntmps76
    go_wp2_with fail
    refine (Ref.within_no _ _ _ (by omega) _).mono ?_; rintro e w' ⟨rfl, rfl⟩
    go_wp2_with fail
    refine (Ref.within_yes _ _ _ h1 h2 _).mono ?_; rintro e w' ⟨rfl, rfl⟩
    go_wp2_with fail
    go_ret
    exact ⟨rfl, rfl⟩
theorem isSign_no (r : Int) (h : ¬ sgn r) (W : World) : Calls Tryd.prog 76 #[.int .i64 r] W fun e w' => e = .returned (.bool false) ∧ W = w' := by
  unfold sgn at h
  have h1 : r < 0 ∨ 55295 < r := by omega
  have h2 : r < 57344 ∨ 1114111 < r := by omega
  have H1 := Lib.hid h1
  have H2 := Lib.hid h2
  clear h h1 h2
  go_enter Tryd.func76, Tryd.ntmps76
  go_wp2_with fail
  refine (Ref.within_no _ _ _ H1.out _).mono ?_; rintro e w' ⟨rfl, rfl⟩
  go_wp2_with fail
  refine (Ref.within_no _ _ _ H2.out _).mono ?_; rintro e w' ⟨rfl, rfl⟩
  go_wp2_with fail
  go_ret
  exact ⟨rfl, rfl⟩

/-- The k-th byte from the last one. -/
def tl (r k : Nat) : UInt8 := UInt8.ofNat (r / 64 ^ k % 64 + 128)
set_option maxHeartbeats 800000 in
theorem tail_any (r k b : Nat) (hk : k ≤ 2) (hr : r ≤ 1114111) (W : World) (hc : W.cell? ⟨b, 0, none⟩ = some (.int .i64 r)) :
    Calls Tryd.prog 107 #[.int .i64 k, .pointer (some ⟨b, 0, none⟩)] W fun e w' => e = .returned (.string ⟨#[tl r k]⟩) ∧ Below W.heap.size W w' := by
  rcases (show k = 0 ∨ k = 1 ∨ k = 2 by omega) with rfl | rfl | rfl
  · have z0 : IntKind.u64.wrap (r : Int) = (r : Int) := IntWalk.u64_in _ (by omega)
    have z3 : ((r : Int) : Int).tmod 64 = (r : Int) % 64 := Int.tmod_eq_emod_of_nonneg (by omega)
    have z4 : IntKind.u64.wrap ((r : Int) % 64 + 128) = (r : Int) % 64 + 128 := IntWalk.u64_in _ (by omega)
    have q : 0 ≤ (r : Int) % 64 + 128 := by omega
    have hfin : ∀ x : Int, x = (r : Int) % 64 + 128 → UInt8.ofNat (x.toNat % 256) = tl r 0 := fun x hx => by
      unfold tl
      congr 1
      omega
    have HF := Lib.hid hfin
    clear hfin
    go_enter Tryd.func107, Tryd.ntmps107
    go_wp2_with fail
    go_region_with (first | (go_at_call 73; refine (Pow.pow2_is 0 (by decide) (by decide) 1 (by decide) _).mono ?_; rintro e w' ⟨rfl, rfl⟩) | (go_at_call 69; refine (Chr.char_any _ (by assumption) _).mono ?_; rintro e w' ⟨rfl, hb⟩; have F9 := Lib.hid hb; clear hb))
    all_goals
      go_wp2_with fail
      go_ret
      exact ⟨by rw [HF.out _ rfl]; rfl, (Below.refl _ _).drew.trans F9.out⟩
  · have z0 : IntKind.u64.wrap (r : Int) = (r : Int) := IntWalk.u64_in _ (by omega)
    have z1 : (r : Int).tdiv 64 = (r : Int) / 64 := Int.tdiv_eq_ediv_of_nonneg (by omega)
    have z2 : IntKind.u64.wrap ((r : Int) / 64) = (r : Int) / 64 := IntWalk.u64_in _ (by omega)
    have z3 : (((r : Int) / 64) : Int).tmod 64 = ((r : Int) / 64) % 64 := Int.tmod_eq_emod_of_nonneg (by omega)
    have z4 : IntKind.u64.wrap (((r : Int) / 64) % 64 + 128) = ((r : Int) / 64) % 64 + 128 := IntWalk.u64_in _ (by omega)
    have q : 0 ≤ ((r : Int) / 64) % 64 + 128 := by omega
    have hfin : ∀ x : Int, x = ((r : Int) / 64) % 64 + 128 → UInt8.ofNat (x.toNat % 256) = tl r 1 := fun x hx => by
      unfold tl
      congr 1
      omega
    have HF := Lib.hid hfin
    clear hfin
    go_enter Tryd.func107, Tryd.ntmps107
    go_wp2_with fail
    go_region_with (first | (go_at_call 73; refine (Pow.pow2_is 6 (by decide) (by decide) 64 (by decide) _).mono ?_; rintro e w' ⟨rfl, rfl⟩) | (go_at_call 69; refine (Chr.char_any _ (by assumption) _).mono ?_; rintro e w' ⟨rfl, hb⟩; have F9 := Lib.hid hb; clear hb))
    all_goals
      go_wp2_with fail
      go_ret
      exact ⟨by rw [HF.out _ rfl]; rfl, (Below.refl _ _).drew.trans F9.out⟩
  · have z0 : IntKind.u64.wrap (r : Int) = (r : Int) := IntWalk.u64_in _ (by omega)
    have z1 : (r : Int).tdiv 4096 = (r : Int) / 4096 := Int.tdiv_eq_ediv_of_nonneg (by omega)
    have z2 : IntKind.u64.wrap ((r : Int) / 4096) = (r : Int) / 4096 := IntWalk.u64_in _ (by omega)
    have z3 : (((r : Int) / 4096) : Int).tmod 64 = ((r : Int) / 4096) % 64 := Int.tmod_eq_emod_of_nonneg (by omega)
    have z4 : IntKind.u64.wrap (((r : Int) / 4096) % 64 + 128) = ((r : Int) / 4096) % 64 + 128 := IntWalk.u64_in _ (by omega)
    have q : 0 ≤ ((r : Int) / 4096) % 64 + 128 := by omega
    have hfin : ∀ x : Int, x = ((r : Int) / 4096) % 64 + 128 → UInt8.ofNat (x.toNat % 256) = tl r 2 := fun x hx => by
      unfold tl
      congr 1
      omega
    have HF := Lib.hid hfin
    clear hfin
    go_enter Tryd.func107, Tryd.ntmps107
    go_wp2_with fail
    go_region_with (first | (go_at_call 73; refine (Pow.pow2_is 12 (by decide) (by decide) 4096 (by decide) _).mono ?_; rintro e w' ⟨rfl, rfl⟩) | (go_at_call 69; refine (Chr.char_any _ (by assumption) _).mono ?_; rintro e w' ⟨rfl, hb⟩; have F9 := Lib.hid hb; clear hb))
    all_goals
      go_wp2_with fail
      go_ret
      exact ⟨by rw [HF.out _ rfl]; rfl, (Below.refl _ _).drew.trans F9.out⟩
/-- A sign's bytes. -/
def sb (r : Nat) : List UInt8 :=
  if r < 128 then [UInt8.ofNat r] else if r < 2048 then [UInt8.ofNat (192 + r / 64), tl r 0] else if r < 65536 then [UInt8.ofNat (224 + r / 4096), tl r 1, tl r 0]
  else [UInt8.ofNat (240 + r / 262144), tl r 2, tl r 1, tl r 0]
def sbS (r : Nat) : ByteArray := ⟨(sb r).toArray⟩
theorem sb1 (r : Nat) (h : r < 128) (x : Nat) (hx : x = r) : (⟨#[UInt8.ofNat (x % 256)]⟩ : ByteArray) = sbS r := by
  have e : x % 256 = r := by omega
  simp [sbS, sb, h, e]
theorem sb2 (r : Nat) (h0 : ¬ r < 128) (h : r < 2048) (x : Nat) (hx : x = 192 + r / 64) : (⟨#[UInt8.ofNat (x % 256)]⟩ : ByteArray) ++ ⟨#[tl r 0]⟩ = sbS r := by
  have e : x % 256 = 192 + r / 64 := by omega
  apply ByteArray.ext
  simp [sbS, sb, h0, h, e, ByteArray.data_append]
theorem sb3 (r : Nat) (h0 : ¬ r < 128) (h1 : ¬ r < 2048) (h : r < 65536) (x : Nat) (hx : x = 224 + r / 4096) : (⟨#[UInt8.ofNat (x % 256)]⟩ : ByteArray) ++ ⟨#[tl r 1]⟩ ++ ⟨#[tl r 0]⟩ = sbS r := by
  have e : x % 256 = 224 + r / 4096 := by omega
  apply ByteArray.ext
  simp [sbS, sb, h0, h1, h, e, ByteArray.data_append]
theorem sb4 (r : Nat) (h1 : ¬ r < 65536) (h : r ≤ 1114111) (x : Nat) (hx : x = 240 + r / 262144) : (⟨#[UInt8.ofNat (x % 256)]⟩ : ByteArray) ++ ⟨#[tl r 2]⟩ ++ ⟨#[tl r 1]⟩ ++ ⟨#[tl r 0]⟩ = sbS r := by
  have e : x % 256 = 240 + r / 262144 := by omega
  have a : ¬ r < 128 := by omega
  have b : ¬ r < 2048 := by omega
  apply ByteArray.ext
  simp [sbS, sb, a, b, h1, e, ByteArray.data_append]
set_option maxRecDepth 100000 in
set_option maxHeartbeats 800000 in
theorem signBytes_any (r : Nat) (hr : r ≤ 1114111) (W : World) :
    Calls Tryd.prog 77 #[.int .i64 r] W fun e w' => e = .returned (.string (sbS r)) ∧ Below W.heap.size W w' := by
  have hmf : ∀ (fn : Fn) (first cap : Array Value) (w : World), (Instr.makeFunc fn first cap).run Tryd.prog w = .ok (.func fn first cap) w := fun _ _ _ _ => rfl
  have c0 : (W.alloc (.cells #[.int .i64 (r : Int)] 3)).cell? ⟨W.heap.size, 0, none⟩ = some (.int .i64 (r : Int)) := new_cell _ _ _
  have H0 := Lib.hid (show Below W.heap.size W (W.alloc (.cells #[.int .i64 (r : Int)] 3)) from (Below.refl _ _).alloc (Nat.le_refl _) _)
  rcases (show r < 128 ∨ (¬ r < 128 ∧ r < 2048) ∨ (¬ r < 128 ∧ ¬ r < 2048 ∧ r < 65536) ∨ (¬ r < 128 ∧ ¬ r < 2048 ∧ ¬ r < 65536) by omega) with k1 | ⟨k1, k2⟩ | ⟨k1, k2, k3⟩ | ⟨k1, k2, k3⟩
  · have HF := Lib.hid (sb1 r k1)
    have a1 : (r : Int) < 128 := by omega
    clear k1
    go_enter Tryd.func77, Tryd.ntmps77
    go_wp2_with fail
    refine (Chr.char_any _ (by omega) _).mono ?_; rintro e w1 ⟨rfl, h1⟩
    have c1 := keepCell h1 c0
    have H1 := Lib.hid (H0.out.trans (h1.mono H0.out.size))
    clear h1 c0
    go_wp2_with fail
    go_ret
    exact ⟨ret_string (by rw [HF.out _ rfl]), H1.out⟩
  · have HF := Lib.hid (sb2 r k1 k2)
    have a1 : (128 : Int) ≤ (r : Int) := by omega
    have a2 : (r : Int) < 2048 := by omega
    clear k1 k2
    go_enter Tryd.func77, Tryd.ntmps77
    go_wp2_with fail
    refine (Chr.char_any _ (by omega) _).mono ?_; rintro e w1 ⟨rfl, h1⟩
    have c1 := keepCell h1 c0
    have H1 := Lib.hid (H0.out.trans (h1.mono H0.out.size))
    clear h1 c0
    go_wp2_with fail
    refine (tail_any r 0 W.heap.size (by omega) hr _ c1).mono ?_; rintro e w2 ⟨rfl, h2⟩
    have c2 := keepCell h2 c1
    have H2 := Lib.hid (H1.out.trans (h2.mono H1.out.size))
    clear h2 c1
    go_wp2_with fail
    go_ret
    exact ⟨ret_string (by rw [HF.out _ rfl]), H2.out⟩
  · have HF := Lib.hid (sb3 r k1 k2 k3)
    have a1 : decide ((r : Int) < 128) = false := decide_eq_false (by omega)
    have a2 : decide ((r : Int) < 2048) = false := decide_eq_false (by omega)
    have a3 : decide ((r : Int) < 65536) = true := decide_eq_true (by omega)
    clear k1 k2 k3
    go_enter Tryd.func77, Tryd.ntmps77
    go_wp2_with fail
    refine (Chr.char_any _ (by omega) _).mono ?_; rintro e w1 ⟨rfl, h1⟩
    have c1 := keepCell h1 c0
    have H1 := Lib.hid (H0.out.trans (h1.mono H0.out.size))
    clear h1 c0
    go_wp2_with fail
    refine (tail_any r 1 W.heap.size (by omega) hr _ c1).mono ?_; rintro e w2 ⟨rfl, h2⟩
    have c2 := keepCell h2 c1
    have H2 := Lib.hid (H1.out.trans (h2.mono H1.out.size))
    clear h2 c1
    go_wp2_with fail
    refine (tail_any r 0 W.heap.size (by omega) hr _ c2).mono ?_; rintro e w3 ⟨rfl, h3⟩
    have c3 := keepCell h3 c2
    have H3 := Lib.hid (H2.out.trans (h3.mono H2.out.size))
    clear h3 c2
    go_wp2_with fail
    go_ret
    exact ⟨ret_string (by rw [HF.out _ rfl]), H3.out⟩
  · have HF := Lib.hid (sb4 r k3 hr)
    have a1 : decide ((r : Int) < 128) = false := decide_eq_false (by omega)
    have a2 : decide ((r : Int) < 2048) = false := decide_eq_false (by omega)
    have a3 : decide ((r : Int) < 65536) = false := decide_eq_false (by omega)
    clear k1 k2 k3
    go_enter Tryd.func77, Tryd.ntmps77
    go_wp2_with fail
    refine (Chr.char_any _ (by omega) _).mono ?_; rintro e w1 ⟨rfl, h1⟩
    have c1 := keepCell h1 c0
    have H1 := Lib.hid (H0.out.trans (h1.mono H0.out.size))
    clear h1 c0
    go_wp2_with fail
    refine (tail_any r 2 W.heap.size (by omega) hr _ c1).mono ?_; rintro e w2 ⟨rfl, h2⟩
    have c2 := keepCell h2 c1
    have H2 := Lib.hid (H1.out.trans (h2.mono H1.out.size))
    clear h2 c1
    go_wp2_with fail
    refine (tail_any r 1 W.heap.size (by omega) hr _ c2).mono ?_; rintro e w3 ⟨rfl, h3⟩
    have c3 := keepCell h3 c2
    have H3 := Lib.hid (H2.out.trans (h3.mono H2.out.size))
    clear h3 c2
    go_wp2_with fail
    refine (tail_any r 0 W.heap.size (by omega) hr _ c3).mono ?_; rintro e w4 ⟨rfl, h4⟩
    have c4 := keepCell h4 c3
    have H4 := Lib.hid (H3.out.trans (h4.mono H3.out.size))
    clear h4 c3
    go_wp2_with fail
    go_ret
    exact ⟨ret_string (by rw [HF.out _ rfl]), H4.out⟩
end Go.Proofs.YtifnochpmlllgaaDoor.Enc
