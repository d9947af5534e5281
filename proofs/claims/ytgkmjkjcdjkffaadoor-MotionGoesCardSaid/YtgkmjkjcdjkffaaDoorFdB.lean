/-
  PROVED HERE: where a pattern of half bytes stands, as one function; the contract of find.Like. Conditions: as each theorem states.
-/
import Derived.Test.YtgkmjkjcdjkffaaDoorFdZ
import Derived.Test.YtgkmjkjcdjkffaaDoorBit
import Derived.BigQuiet
import Derived.Deep.QuietTactic
import Derived.StillTailTactics
namespace Go.Proofs.YtgkmjkjcdjkffaaDoor.Fd
open Go.RowKit

/-- Half byte j of a pattern stands at place i. -/
def hh (s : ByteArray) (m : List Int) (i j : Nat) : Bool := decide (m.getD j 0 < 0 ∨ m.getD j 0 = (if j % 2 = 1 then byteAt s (i + j / 2) % 16 else byteAt s (i + j / 2) / 16 : Nat))
/-- The pattern stands at place i. -/
def ms (s : ByteArray) (m : List Int) (i : Nat) : Bool := (List.range m.length).all (hh s m i)
/-- Where it stands, of the places p with p + n ≤ i. -/
def lk (s : ByteArray) (m : List Int) (n i : Nat) : List Int := ((List.range (i + 1 - n)).filter (ms s m)).map fun p : Nat => (p : Int)
/-- Byte c fits whole byte k of a pattern. -/
def mb (m : List Int) (c k : Nat) : Bool := decide ((m.getD (2 * k) 0 < 0 ∨ m.getD (2 * k) 0 = (c / 16 : Nat)) ∧ (m.getD (2 * k + 1) 0 < 0 ∨ m.getD (2 * k + 1) 0 = (c % 16 : Nat)))
def mk (m : List Int) (c : Nat) : Nat → Nat
  | 0 => 0
  | k + 1 => mk m c k + if mb m c k then 2 ^ k else 0
theorem mk_lt (m : List Int) (c : Nat) : ∀ k, mk m c k < 2 ^ k
  | 0 => by simp [mk]
  | k + 1 => by
    have := mk_lt m c k
    rw [mk, Nat.pow_succ]; split <;> omega
theorem mk_bit (m : List Int) (c : Nat) : ∀ k j, (mk m c k).testBit j = (decide (j < k) && mb m c j)
  | 0, j => by simp [mk]
  | k + 1, j => by
    have h := mk_bit m c k
    have hl := mk_lt m c k
    rw [mk]
    by_cases hb : mb m c k
    · rw [if_pos hb, Nat.add_comm, ← nat_join k (2 ^ k) (mk m c k) (Nat.mod_self _) hl, Nat.testBit_or, Nat.testBit_two_pow, h j]
      by_cases e : k = j
      · subst e; simp [hb]
      · by_cases e2 : j < k
        · simp [e, e2, show j < k + 1 by omega]
        · simp [e, e2, show ¬ j < k + 1 by omega]
    · rw [if_neg hb, Nat.add_zero, h j]
      by_cases e : j = k
      · subst e; simp [hb]
      · by_cases e2 : j < k
        · simp [e2, show j < k + 1 by omega]
        · simp [e2, show ¬ j < k + 1 by omega]
/-- The register behind i bytes. -/
def rg (s : ByteArray) (m : List Int) (n : Nat) : Nat → Nat
  | 0 => 0
  | i + 1 => ((rg s m n i * 2 % 18446744073709551616) ||| 1) &&& mk m (byteAt s i) n
theorem rg_lt (s : ByteArray) (m : List Int) (n i : Nat) (hn : n ≤ 64) : rg s m n i < 18446744073709551616 := by
  cases i with
  | zero => show (0 : Nat) < _; decide
  | succ i =>
    rw [rg]
    refine Nat.lt_of_le_of_lt Nat.and_le_right (Nat.lt_of_lt_of_le (mk_lt _ _ _) ?_)
    exact Nat.pow_le_pow_right (by decide) hn
theorem rg_bit (s : ByteArray) (m : List Int) (n : Nat) (hn : n ≤ 64) : ∀ i j, (rg s m n i).testBit j = decide (j < n ∧ j < i ∧ ∀ t, t ≤ j → mb m (byteAt s (i - 1 - j + t)) t = true)
  | 0, j => by simp [rg]
  | i + 1, j => by
    have ih := rg_bit s m n hn i
    rw [rg, Nat.testBit_and, Nat.testBit_or, mk_bit]
    rw [show (18446744073709551616 : Nat) = 2 ^ 64 from rfl, Nat.testBit_mod_two_pow]
    cases j with
    | zero =>
      simp
    | succ j =>
      rw [Nat.testBit_succ, Nat.mul_div_cancel _ (by decide), ih j]
      rw [show (1 : Nat).testBit (j + 1) = false by simp [Nat.testBit_succ]]
      rw [Bool.eq_iff_iff]
      simp only [Bool.or_false, Bool.and_eq_true, decide_eq_true_eq]
      constructor
      · rintro ⟨⟨h1, h2, h3, h4⟩, h5, h6⟩
        refine ⟨h5, by omega, fun t ht => ?_⟩
        rcases Nat.lt_succ_iff_lt_or_eq.1 (Nat.lt_succ_of_le ht) with h | rfl
        · have := h4 t (by omega)
          rw [show i + 1 - 1 - (j + 1) + t = i - 1 - j + t by omega]; exact this
        · rw [show i + 1 - 1 - (j + 1) + (j + 1) = i by omega]; exact h6
      · rintro ⟨h1, h2, h3⟩
        refine ⟨⟨by omega, by omega, by omega, fun t ht => ?_⟩, h1, ?_⟩
        · have := h3 t (by omega)
          rw [show i + 1 - 1 - (j + 1) + t = i - 1 - j + t by omega] at this; exact this
        · have := h3 (j + 1) (by omega)
          rw [show i + 1 - 1 - (j + 1) + (j + 1) = i by omega] at this; exact this
theorem ms_iff (s : ByteArray) (m : List Int) (n p : Nat) (hm : m.length = 2 * n) : ms s m p = true ↔ ∀ t, t < n → mb m (byteAt s (p + t)) t = true := by
  unfold ms
  rw [List.all_eq_true]
  constructor
  · intro h t ht
    have h1 := h (2 * t) (List.mem_range.2 (by omega))
    have h2 := h (2 * t + 1) (List.mem_range.2 (by omega))
    unfold hh at h1 h2
    rw [decide_eq_true_iff] at h1 h2
    rw [if_neg (by omega), show 2 * t / 2 = t by omega] at h1
    rw [if_pos (by omega), show (2 * t + 1) / 2 = t by omega] at h2
    unfold mb
    rw [decide_eq_true_iff]
    exact ⟨h1, h2⟩
  · intro h j hj
    have hj' := List.mem_range.1 hj
    have h1 := h (j / 2) (by omega)
    unfold mb at h1
    rw [decide_eq_true_iff] at h1
    unfold hh
    rw [decide_eq_true_iff]
    by_cases hp : j % 2 = 1
    · rw [if_pos hp]
      have := h1.2
      rw [show 2 * (j / 2) + 1 = j by omega] at this; exact this
    · rw [if_neg hp]
      have := h1.1
      rw [show 2 * (j / 2) = j by omega] at this; exact this
theorem rg_ms (s : ByteArray) (m : List Int) (n i : Nat) (hn : n ≤ 64) (h1 : 1 ≤ n) (hm : m.length = 2 * n) : (rg s m n (i + 1)).testBit (n - 1) = (decide (n ≤ i + 1) && ms s m (i + 1 - n)) := by
  rw [rg_bit s m n hn]
  rw [Bool.eq_iff_iff, decide_eq_true_iff, Bool.and_eq_true, decide_eq_true_iff, ms_iff s m n _ hm]
  constructor
  · rintro ⟨_, h2, h3⟩
    refine ⟨by omega, fun t ht => ?_⟩
    have := h3 t (by omega)
    rw [show i + 1 - 1 - (n - 1) + t = i + 1 - n + t by omega] at this; exact this
  · rintro ⟨h2, h3⟩
    refine ⟨by omega, by omega, fun t ht => ?_⟩
    have := h3 t (by omega)
    rw [show i + 1 - 1 - (n - 1) + t = i + 1 - n + t by omega]; exact this
theorem lk_succ (s : ByteArray) (m : List Int) (n i : Nat) : lk s m n (i + 1) = lk s m n i ++ if n ≤ i + 1 ∧ ms s m (i + 1 - n) = true then [((i + 1 - n : Nat) : Int)] else [] := by
  unfold lk
  by_cases h : n ≤ i + 1
  · rw [show i + 1 + 1 - n = (i + 1 - n) + 1 by omega, List.range_succ, List.filter_append, List.map_append]
    congr 1
    by_cases h2 : ms s m (i + 1 - n) = true
    · rw [if_pos ⟨h, h2⟩]; simp [h2]
    · rw [if_neg (fun x => h2 x.2)]; simp [h2]
  · rw [show i + 1 + 1 - n = 0 by omega, show i + 1 - n = 0 by omega, if_neg (fun x => h x.1)]
    simp
theorem lk_len (s : ByteArray) (m : List Int) (n i : Nat) : (lk s m n i).length ≤ i + 1 := by
  unfold lk
  rw [List.length_map]
  have := List.length_filter_le (ms s m) (List.range (i + 1 - n))
  rw [List.length_range] at this
  omega

/-- The table of 256 numbers. -/
def Tab (w : World) (g : Nat) (T : Nat → Nat) : Prop := g < w.heap.size ∧ ∀ c, c < 256 → w.cell? ⟨g, c, none⟩ = some (.int .u64 (T c : Nat)) ∧ w.frozen? ⟨g, c, none⟩ = false
theorem Tab.below {w w' : World} {g : Nat} {T : Nat → Nat} (h : Tab w g T) {B : Nat} (hB : g < B) (hb : Below B w w') : Tab w' g T :=
  ⟨Nat.lt_of_lt_of_le h.1 hb.size, fun c hc => ⟨(hb.cell (p := ⟨g, c, none⟩) hB).trans (h.2 c hc).1, (hb.frozen (p := ⟨g, c, none⟩) hB).trans (h.2 c hc).2⟩⟩
theorem Tab.drew {w : World} {g : Nat} {T : Nat → Nat} (h : Tab w g T) : Tab w.drew g T := h
theorem Tab.drewN {w : World} {g : Nat} {T : Nat → Nat} (h : Tab w g T) (n : Nat) : Tab (w.drewN n) g T := h
theorem Tab.set {w : World} {g : Nat} {T : Nat → Nat} (h : Tab w g T) (c y : Nat) (_ : c < 256) : Tab (w.setCell ⟨g, c, none⟩ (.int .u64 (y : Nat))) g (fun x => if x = c then y else T x) := by
  refine ⟨by simpa [World.setCell] using h.1, fun x hx => ⟨?_, ?_⟩⟩
  · by_cases e : x = c
    · subst e
      rw [World.cell?_setCell_same _ _ _ (h.2 x hx).1]
      simp
    · rw [World.cell?_setCell_other _ _ _ _ (fun hh => e (by injection hh with _ h1; exact h1.symm))]
      simp only [if_neg e]
      exact (h.2 x hx).1
  · rw [frozen?_setCell]
    exact (h.2 x hx).2
def tt (m : List Int) (n c k x : Nat) : Nat := if x < c then mk m x n else if x = c then mk m c k else 0
theorem tt_yes (m : List Int) (n c k : Nat) (h : mb m c k = true) : (fun x => if x = c then tt m n c k c + 2 ^ k else tt m n c k x) = tt m n c (k + 1) := by
  funext x
  unfold tt
  by_cases e : x = c
  · subst e; simp [mk, h]
  · by_cases e2 : x < c
    · simp [e, e2]
    · simp [e, e2]
theorem tt_no (m : List Int) (n c k : Nat) (h : mb m c k = false) : tt m n c (k + 1) = tt m n c k := by
  funext x
  unfold tt
  simp [mk, h]
theorem tt_next (m : List Int) (n c : Nat) : tt m n c n = tt m n (c + 1) 0 := by
  funext x
  unfold tt
  by_cases e : x < c
  · simp [e, show x < c + 1 by omega]
  · by_cases e2 : x = c
    · subst e2; simp
    · simp [e, e2, show ¬ x < c + 1 by omega, mk]
theorem tri (x z : Int) : decide (x < 0) = true ∨ (decide (x < 0) = false ∧ (x == z) = true) ∨ (decide (x < 0) = false ∧ (x == z) = false) := by
  by_cases h : x < 0
  · exact .inl (decide_eq_true h)
  · cases hz : (x == z)
    · exact .inr (.inr ⟨decide_eq_false h, rfl⟩)
    · exact .inr (.inl ⟨decide_eq_false h, rfl⟩)
theorem mb_of (m : List Int) (c k : Nat) : mb m c k = ((decide (m.getD (2 * k) 0 < 0) || (m.getD (2 * k) 0 == (c : Int) / 16)) && (decide (m.getD (2 * k + 1) 0 < 0) || (m.getD (2 * k + 1) 0 == (c : Int) % 16))) := by
  unfold mb
  rw [Bool.eq_iff_iff]
  simp
theorem zero_tab : Tryd.zeroCells89 = Array.replicate 256 (.int .u64 0) := by kernel_rfl
theorem tab_made (W : World) : Tab (W.alloc (.cells Tryd.zeroCells89 89)) W.heap.size (fun _ => 0) := by
  rw [zero_tab]
  refine ⟨by simp, fun c hc => ⟨?_, ?_⟩⟩
  · rw [World.cell?_alloc_new]
    simp [hc]
  · rw [World.frozen?_alloc_mark]; simp

theorem or_new (x k : Nat) (hx : x < 2 ^ k) (hk : k < 64) : bits .or .u64 (x : Int) (IntKind.u64.wrap ((2 : Int) ^ k)) = ((x + 2 ^ k : Nat) : Int) := by
  have h1 : (2 : Nat) ^ k < 18446744073709551616 := Nat.lt_of_lt_of_le (Nat.pow_lt_pow_right (by decide) hk) (by decide)
  have e : ((2 : Int) ^ k) = ((2 ^ k : Nat) : Int) := by simp
  rw [e, IntKind.wrap_u64, show (((2 ^ k : Nat) : Int) % 18446744073709551616) = ((2 ^ k : Nat) : Int) by omega]
  rw [u64_or_nat x (2 ^ k) (by omega) h1, Nat.or_comm, nat_join k (2 ^ k) x (Nat.mod_self _) hx, Nat.add_comm]
theorem reg_step (r M : Nat) (hM : M < 18446744073709551616) : bits .and .u64 (bits .or .u64 (IntKind.u64.wrap ((r : Int) * 2)) 1) (M : Nat) = (((r * 2 % 18446744073709551616 ||| 1) &&& M : Nat) : Int) := by
  have e : IntKind.u64.wrap ((r : Int) * 2) = ((r * 2 % 18446744073709551616 : Nat) : Int) := by rw [IntKind.wrap_u64]; omega
  have hl : r * 2 % 18446744073709551616 < 18446744073709551616 := Nat.mod_lt _ (by decide)
  rw [e, show (1 : Int) = ((1 : Nat) : Int) from rfl, u64_or_nat _ 1 hl (by decide), u64_and_nat _ M (Nat.or_lt_two_pow (n := 64) hl (by decide)) hM]
theorem bit_test (R j : Nat) (hR : R < 18446744073709551616) : (bits .and .u64 ((R : Int) / 2 ^ j) 1 == 1) = R.testBit j := by
  have e : (R : Int) / 2 ^ j = ((R / 2 ^ j : Nat) : Int) := by simp
  rw [e, show (1 : Int) = ((1 : Nat) : Int) from rfl, u64_and_nat _ 1 (Nat.lt_of_le_of_lt (Nat.div_le_self _ _) hR) (by decide), Nat.and_one_is_mod, Nat.testBit_eq_decide_div_mod_eq]
  by_cases h : R / 2 ^ j % 2 = 1
  · rw [h]; rfl
  · rw [decide_eq_false h, beq_eq_false_iff_ne]; omega
theorem lk_zero (s : ByteArray) (m : List Int) (n : Nat) (h : 1 ≤ n) : lk s m n 0 = [] := by
  unfold lk
  rw [show 0 + 1 - n = 0 by omega]; rfl
def Sc (s : ByteArray) (m : List Int) (n : Nat) (W : World) (v at_ i : Value) (wr : World) : Prop :=
  ∃ k : Nat, k ≤ s.size ∧ i = .int .i64 k ∧ (∃ r : Nat, at_ = .int .u64 r ∧ Hid (r = rg s m n k)) ∧ (∃ a cap, v = .slice a (lk s m n k).length cap) ∧ Hid (Own wr (W.heap.size + 1) 3 v (i64s (lk s m n k))) ∧ Hid (Tab wr W.heap.size (tt m n 256 0)) ∧ Hid (Below W.heap.size W wr)
def RY (l : List Int) (W : World) (e : Ending) (w' : World) : Prop := ∃ v, e = .returned (.tuple #[v, .nilIface]) ∧ Ints w' v l ∧ Below W.heap.size W w'
set_option maxRecDepth 100000 in
set_option maxHeartbeats 4000000 in
theorem like_yesN (s : ByteArray) (v : Value) (m : List Int) (n : Nat) (hm : m.length = 2 * n) (hn : 1 ≤ n ∧ n ≤ 64) (hs : s.size ≤ 1000) (W : World) (hi : Ints W v m) (hb : ∀ x ∈ m, -9223372036854775808 ≤ x ∧ x ≤ 9223372036854775807) :
    Calls Tryd.prog 31 #[.string s, v] W (RY (lk s m n s.size) W) := by
  obtain ⟨hn1, hn2⟩ := hn
  obtain ⟨a, cap, rfl, hc⟩ := hi
  have hcH : Hid (∀ j, j < 2 * n → ∃ ad, a = some ad ∧ W.cell? (ad.add j) = some (.int .i64 (m.getD j 0))) := Lib.hid (fun j hj => by
    obtain ⟨ad, h1, h2⟩ := hc j (by omega)
    refine ⟨ad, h1, h2.trans ?_⟩
    rw [List.getD_eq_getElem?_getD, List.getElem?_eq_getElem (by omega)]; rfl)
  have hbH : Hid (∀ j, j < 2 * n → -9223372036854775808 ≤ m.getD j 0 ∧ m.getD j 0 ≤ 9223372036854775807) := Lib.hid (fun j hj => by
    rw [List.getD_eq_getElem?_getD, List.getElem?_eq_getElem (by omega)]
    exact hb _ (List.getElem_mem _))
  have hmH := Lib.hid hm
  rw [hm]
  clear hc hb hm
  have b1 : ((n : Int) == 0) = false := by rw [beq_eq_false_iff_ne]; omega
  have b2 : (2 * (n : Int) % 2 == 1) = false := by rw [beq_eq_false_iff_ne]; omega
  have b3 : decide ((64 : Int) < (n : Int)) = false := decide_eq_false (by omega)
  go_enter Tryd.func31, Tryd.ntmps31
  go_wp2_with fail
  clear b1 b2 b3
  go_loopw [31] (fun i wr => ∃ c : Nat, c ≤ 256 ∧ i = .int .i64 c ∧ Hid (Tab wr W.heap.size (tt m n c 0)) ∧ Hid (Below W.heap.size W wr)) (fun i _ => 256 - (intOf i).toNat)
  case atStart =>
    refine ⟨0, by omega, rfl, Lib.hid ?_, Lib.hid ((Below.refl _ _).alloc (Nat.le_refl _) _)⟩
    have h := tab_made W
    rw [show (fun _ => 0) = tt m n 0 0 by funext x; unfold tt; simp [mk]] at h
    exact h
  case round =>
    obtain ⟨c, hcl, rfl, hT0, hB0⟩ := hrel
    by_cases hlt : c < 256
    · go_wp2_with fail
      go_loopw [35] (fun i wr => ∃ k : Nat, k ≤ n ∧ i = .int .i64 k ∧ Hid (Tab wr W.heap.size (tt m n c k)) ∧ Hid (Below W.heap.size W wr)) (fun i _ => n - (intOf i).toNat)
      case atStart => exact ⟨0, by omega, rfl, hT0, hB0⟩
      case round =>
        obtain ⟨k, hk, rfl, hT, hBH⟩ := hrel
        clear hT0 hB0
        by_cases hkl : k < n
        · obtain ⟨ad, rfl, hc0⟩ := hcH.out (2 * k) (by omega)
          obtain ⟨ad', had', hc1⟩ := hcH.out (2 * k + 1) (by omega)
          obtain rfl : ad = ad' := Option.some.inj had'
          have hA := (hBH.out.cell (p := ad.add (2 * k)) (World.block_lt_of_cell? W _ hc0)).trans hc0
          have hB := (hBH.out.cell (p := ad.add (2 * k + 1)) (World.block_lt_of_cell? W _ hc1)).trans hc1
          have hB' := hB
          rw [Addr.add_succ'] at hB'
          have x1 := hbH.out (2 * k) (by omega)
          have y1 := hbH.out (2 * k + 1) (by omega)
          have i1 : (0 : Int) ≤ 2 * (k : Int) := by omega
          have i2 : 2 * (k : Int) < 2 * (n : Int) := by omega
          have i3 : (0 : Int) ≤ 2 * (k : Int) + 1 := by omega
          have i4 : 2 * (k : Int) + 1 < 2 * (n : Int) := by omega
          have i5 : (0 : Int) ≤ (c : Int) := by omega
          have i6 : (c : Int) < 256 := by omega
          have z1 : IntKind.i64.wrap (2 * (k : Int)) = 2 * (k : Int) := IntWalk.i64_in _ (by omega)
          have z2 : IntKind.i64.wrap (2 * (k : Int) + 1) = 2 * (k : Int) + 1 := IntWalk.i64_in _ (by omega)
          have msk := i64_mask c 4 (by omega) (by decide)
          have hmsk : bits .and .i64 (c : Int) 15 = (c : Int) % 16 := by rw [show (15 : Int) = ((2 ^ 4 - 1 : Nat) : Int) from rfl, msk]; rfl
          have hcell := (hT.out.2 c hlt).1
          have hfz := (hT.out.2 c hlt).2
          have hmk : Hid (tt m n c k c = mk m c k) := Lib.hid (by unfold tt; simp)
          have hmkl := mk_lt m c k
          have hmk64 : mk m c k < 18446744073709551616 := Nat.lt_of_lt_of_le hmkl (Nat.le_trans (Nat.pow_le_pow_right (by decide) (show k ≤ 64 by omega)) (by decide))
          rw [hmk.out] at hcell
          have HV := Lib.hid (or_new (mk m c k) k hmkl (by omega))
          clear hc0 hc1 had' hB msk
          generalize hx : m.getD (2 * k) 0 = x at *
          generalize hy : m.getD (2 * k + 1) 0 = y at *
          have hxH := Lib.hid hx
          have hyH := Lib.hid hy
          clear hx hy
          rcases tri x ((c : Int) / 16) with a1 | ⟨a1, a2⟩ | ⟨a1, a2⟩
          · rcases tri y ((c : Int) % 16) with b1 | ⟨b1, b2⟩ | ⟨b1, b2⟩
            · skip
              have hv : mb m c k = true := by rw [mb_of, hxH.out, hyH.out]; simp [a1, b1]
              have hS := Lib.hid (tt_yes m n c k hv)
              clear hv
              go_wp2_with fail
              go_quiet (fail)
              go_wp2_with fail
              go_region
              all_goals
                go_wp2_with fail
                go_roundw
                case rel => exact ⟨k + 1, by omega, by go_num, by rw [HV.out, ← hS.out, ← hmk.out]; exact Lib.hid ((hT.out.drewN (nq + 1)).set c _ hlt), Lib.hid ((below_drewN hBH.out _).setCell (p := ⟨W.heap.size, c, none⟩) (Nat.le_refl _) _)⟩
                case measure => simp [intOf]; omega
            · skip
              have hv : mb m c k = true := by rw [mb_of, hxH.out, hyH.out]; simp [a1, b1, b2]
              have hS := Lib.hid (tt_yes m n c k hv)
              clear hv
              go_wp2_with fail
              go_quiet (fail)
              go_wp2_with fail
              go_region
              all_goals
                go_wp2_with fail
                go_roundw
                case rel => exact ⟨k + 1, by omega, by go_num, by rw [HV.out, ← hS.out, ← hmk.out]; exact Lib.hid ((hT.out.drewN (nq + 1)).set c _ hlt), Lib.hid ((below_drewN hBH.out _).setCell (p := ⟨W.heap.size, c, none⟩) (Nat.le_refl _) _)⟩
                case measure => simp [intOf]; omega
            · skip
              have hv : mb m c k = false := by rw [mb_of, hxH.out, hyH.out]; simp [a1, b1, b2]
              have hS := Lib.hid (tt_no m n c k hv)
              clear hv
              go_wp2_with fail
              go_quiet (fail)
              go_wp2_with fail
              go_roundw
              case rel => exact ⟨k + 1, by omega, by go_num, by rw [hS.out]; exact hT.out, below_drewN hBH.out _⟩
              case measure => simp [intOf]; omega
          · rcases tri y ((c : Int) % 16) with b1 | ⟨b1, b2⟩ | ⟨b1, b2⟩
            · skip
              have hv : mb m c k = true := by rw [mb_of, hxH.out, hyH.out]; simp [a1, a2, b1]
              have hS := Lib.hid (tt_yes m n c k hv)
              clear hv
              go_wp2_with fail
              go_quiet (fail)
              go_wp2_with fail
              go_region
              all_goals
                go_wp2_with fail
                go_roundw
                case rel => exact ⟨k + 1, by omega, by go_num, by rw [HV.out, ← hS.out, ← hmk.out]; exact Lib.hid ((hT.out.drewN (nq + 1)).set c _ hlt), Lib.hid ((below_drewN hBH.out _).setCell (p := ⟨W.heap.size, c, none⟩) (Nat.le_refl _) _)⟩
                case measure => simp [intOf]; omega
            · skip
              have hv : mb m c k = true := by rw [mb_of, hxH.out, hyH.out]; simp [a1, a2, b1, b2]
              have hS := Lib.hid (tt_yes m n c k hv)
              clear hv
              go_wp2_with fail
              go_quiet (fail)
              go_wp2_with fail
              go_region
              all_goals
                go_wp2_with fail
                go_roundw
                case rel => exact ⟨k + 1, by omega, by go_num, by rw [HV.out, ← hS.out, ← hmk.out]; exact Lib.hid ((hT.out.drewN (nq + 1)).set c _ hlt), Lib.hid ((below_drewN hBH.out _).setCell (p := ⟨W.heap.size, c, none⟩) (Nat.le_refl _) _)⟩
                case measure => simp [intOf]; omega
            · skip
              have hv : mb m c k = false := by rw [mb_of, hxH.out, hyH.out]; simp [a1, a2, b1, b2]
              have hS := Lib.hid (tt_no m n c k hv)
              clear hv
              go_wp2_with fail
              go_quiet (fail)
              go_wp2_with fail
              go_roundw
              case rel => exact ⟨k + 1, by omega, by go_num, by rw [hS.out]; exact hT.out, below_drewN hBH.out _⟩
              case measure => simp [intOf]; omega
          · skip
            have hv : mb m c k = false := by rw [mb_of, hxH.out, hyH.out]; simp [a1, a2]
            have hS := Lib.hid (tt_no m n c k hv)
            clear hv
            go_wp2_with fail
            go_quiet (fail)
            go_wp2_with fail
            go_roundw
            case rel => exact ⟨k + 1, by omega, by go_num, by rw [hS.out]; exact hT.out, below_drewN hBH.out _⟩
            case measure => simp [intOf]; omega
        · obtain rfl : k = n := by omega
          go_wp2_with fail
          go_roundw
          case rel => exact ⟨c + 1, by omega, by go_num, by rw [← tt_next]; exact hT, hBH⟩
          case measure => simp [intOf]; omega
    · obtain rfl : c = 256 := by omega
      go_wp2_with fail
      have hTs := hT0
      clear hcH hbH
      go_loopw [12, 13, 78] (fun v at_ i wr => Sc s m n W v at_ i wr) (fun _ _ i _ => s.size - (intOf i).toNat)
      case atStart => exact ⟨0, Nat.zero_le _, rfl, ⟨0, rfl, Lib.hid rfl⟩, ⟨none, 0, by rw [lk_zero s m n hn1]; rfl⟩, Lib.hid (by rw [lk_zero s m n hn1]; exact own_nil _ _ _), hT0, hB0⟩
      case round =>
        obtain ⟨k, hk, rfl, ⟨r, rfl, hr⟩, ⟨a2, cap2, rfl⟩, ho, hT, hBH⟩ := hrel
        clear hT0 hB0 hTs
        have hll := lk_len s m n k
        by_cases hkl : k < s.size
        · have hbb := byteAt_eq s k hkl
          have hb3 : s[k].toNat < 256 := UInt8.toNat_lt _
          have hcell := (hT.out.2 s[k].toNat hb3).1
          have hmk : Hid (tt m n 256 0 s[k].toNat = mk m s[k].toNat n) := Lib.hid (by unfold tt; rw [if_pos hb3])
          rw [hmk.out] at hcell
          have HR : Hid (bits .and .u64 (bits .or .u64 (IntKind.u64.wrap ((r : Int) * 2)) 1) (mk m s[k].toNat n : Nat) = ((rg s m n (k + 1) : Nat) : Int)) := Lib.hid (by
            rw [reg_step r (mk m s[k].toNat n) (Nat.lt_of_lt_of_le (mk_lt _ _ _) (Nat.pow_le_pow_right (by decide) hn2)), rg, ← hr.out, hbb])
          have hRl := rg_lt s m n (k + 1) hn2
          have hbit := Lib.hid (rg_ms s m n k hn2 hn1 hmH.out)
          have hls := Lib.hid (lk_succ s m n k)
          have hrl : r < 18446744073709551616 := by rw [hr.out]; exact rg_lt s m n k hn2
          have j1 : (0 : Int) ≤ (s[k].toNat : Int) := by omega
          have j2 : (s[k].toNat : Int) < 256 := by omega
          have hrlH := Lib.hid hrl
          clear hbb hmk hrl
          generalize hRe : rg s m n (k + 1) = R at *
          have hReH := Lib.hid hRe
          clear hRe
          generalize mk m s[k].toNat n = M at *
          have hRlH := Lib.hid hRl
          have TB := Lib.hid (bit_test R (n - 1) hRl)
          have HRo := HR.out
          clear hRl HR
          by_cases hhit : n ≤ k + 1 ∧ ms s m (k + 1 - n) = true
          · have hb : R.testBit (n - 1) = true := by rw [hbit.out, decide_eq_true hhit.1, hhit.2]; rfl
            have tb : (bits .and .u64 ((R : Int) / 2 ^ (n - 1)) 1 == 1) = true := by rw [TB.out, hb]
            rw [if_pos hhit] at hls
            have hle : (n : Int) ≤ (k : Int) + 1 := by omega
            have hv : Hid ((k : Int) + 1 - (n : Int) = ((k + 1 - n : Nat) : Int)) := Lib.hid (by omega)
            clear hhit hb
            go_wp2_with (at_builtin; refine own_append1 rfl _ _ 22 rfl (W.heap.size + 1) 3 (.int .i64 0) 8 Tryd.underlying22 (by kernel_rfl) rfl _ _ rfl (ho.out.alloc _) _ 1 _ rfl (new_cell _ _ _) rfl (by rw [i64s_len]; omega) (by rw [i64s_len]; omega) (le_alloc hT.out.1 _) ?_; intro v1 w1 ho1 hg1 hb1 hat1; have hb2 := below_append (Below.refl (W.heap.size + 1) _) _ hT.out.1 hb1; rw [hv.out, i64s_snoc, ← hls.out] at ho1; have hB1 := Lib.hid (hBH.out.trans (hb2.mono (by omega))); have hT1 := Lib.hid (hT.out.below (Nat.lt_succ_self _) hb2); have ho1H := Lib.hid ho1; clear hg1 hb1 hat1 hb2 ho1)
            go_roundw
            case rel => first | exact ⟨k + 1, by omega, by go_num, ⟨R, rfl, Lib.hid hReH.out.symm⟩, (by obtain ⟨a', c', e'⟩ := ho1H.out.len; rw [i64s_len] at e'; exact ⟨a', c', e'⟩), ho1H, hT1, hB1⟩ | ((repeat apply Exists.intro); exact ⟨⟨k + 1, by omega, by go_num, ⟨R, rfl, Lib.hid hReH.out.symm⟩, (by obtain ⟨a', c', e'⟩ := ho1H.out.len; rw [i64s_len] at e'; exact ⟨a', c', e'⟩), ho1H, hT1, hB1⟩, rfl⟩)
            case measure => simp [intOf]; omega
          · have hb : R.testBit (n - 1) = false := by
              rw [hbit.out]
              cases hd : (decide (n ≤ k + 1) && ms s m (k + 1 - n)) with
              | false => rfl
              | true =>
                rw [Bool.and_eq_true, decide_eq_true_iff] at hd
                exact absurd hd hhit
            have tb : (bits .and .u64 ((R : Int) / 2 ^ (n - 1)) 1 == 1) = false := by rw [TB.out, hb]
            rw [if_neg hhit, List.append_nil] at hls
            clear hhit hb
            go_wp2_with fail
            go_roundw
            case rel => first | exact ⟨k + 1, by omega, by go_num, ⟨R, rfl, Lib.hid hReH.out.symm⟩, ⟨_, _, by rw [hls.out]⟩, by rw [hls.out]; exact ho, hT, hBH⟩ | ((repeat apply Exists.intro); exact ⟨⟨k + 1, by omega, by go_num, ⟨R, rfl, Lib.hid hReH.out.symm⟩, ⟨_, _, by rw [hls.out]⟩, by rw [hls.out]; exact ho, hT, hBH⟩, rfl⟩)
            case measure => simp [intOf]; omega
        · obtain rfl : k = s.size := by omega
          go_wp2_with fail
          go_ret2
          exact ⟨_, rfl, ho.out.ints, hBH.out⟩
theorem like_yes (s : ByteArray) (v : Value) (m : List Int) (n : Nat) (hm : m.length = 2 * n) (hn : 1 ≤ n ∧ n ≤ 64) (hs : s.size ≤ 1000) (W : World) (hi : Ints W v m) (hb : ∀ x ∈ m, -9223372036854775808 ≤ x ∧ x ≤ 9223372036854775807) :
    Calls Tryd.prog 31 #[.string s, v] W (RP (some (lk s m n s.size)) W) :=
  (like_yesN s v m n hm hn hs W hi hb).mono fun _ _ ⟨v, e, h1, h2⟩ => ⟨v, _, e, h1, .inl ⟨rfl, rfl, rfl⟩, h2⟩
end Go.Proofs.YtgkmjkjcdjkffaaDoor.Fd
