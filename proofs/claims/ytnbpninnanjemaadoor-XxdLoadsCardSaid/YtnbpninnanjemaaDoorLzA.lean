/-
  PROVED HERE: texts told by what stood in them already, in plain Lean; nothing of the Go text. Conditions: as each theorem states.
-/
import Derived.Test.YtnbpninnanjemaaDoorMem
namespace Go.Proofs.YtnbpninnanjemaaDoor.Lz
open Go.RowKit
def ub (s : ByteArray) (k : Nat) : UInt8 := s.data[k]?.getD 0
theorem ub_eq (s : ByteArray) (k : Nat) (h : k < s.size) : s[k] = ub s k := (getD_eq s k h).symm
/-- How many bytes are alike from p on and from q on, n at most. -/
def alf (s : ByteArray) : Nat → Nat → Nat → Nat
  | _, _, 0 => 0
  | p, q, n + 1 => if ub s p = ub s q then 1 + alf s (p + 1) (q + 1) n else 0
def al (s : ByteArray) (p q : Nat) : Nat := alf s p q (s.size - q)
theorem alf_le (s : ByteArray) : ∀ n p q, alf s p q n ≤ n
  | 0, _, _ => Nat.le_refl _
  | n + 1, p, q => by
    rw [alf]
    split
    · have := alf_le s n (p + 1) (q + 1); omega
    · omega
theorem alf_same (s : ByteArray) : ∀ n p q j, j < alf s p q n → ub s (p + j) = ub s (q + j)
  | 0, _, _, j, h => absurd h (Nat.not_lt_zero j)
  | n + 1, p, q, j, h => by
    rw [alf] at h
    split at h
    · cases j with
      | zero => assumption
      | succ j =>
        have := alf_same s n (p + 1) (q + 1) j (by omega)
        rwa [show p + 1 + j = p + (j + 1) by omega, show q + 1 + j = q + (j + 1) by omega] at this
    · omega
theorem alf_stop (s : ByteArray) : ∀ n p q, alf s p q n < n → ub s (p + alf s p q n) ≠ ub s (q + alf s p q n)
  | 0, _, _, h => absurd h (Nat.not_lt_zero _)
  | n + 1, p, q, h => by
    rw [alf] at h ⊢
    split at h
    · rename_i h1
      rw [if_pos h1]
      have := alf_stop s n (p + 1) (q + 1) (by omega)
      rwa [show p + 1 + alf s (p + 1) (q + 1) n = p + (1 + alf s (p + 1) (q + 1) n) by omega, show q + 1 + alf s (p + 1) (q + 1) n = q + (1 + alf s (p + 1) (q + 1) n) by omega] at this
    · rename_i h1
      rw [if_neg h1]
      exact h1
theorem al_le (s : ByteArray) (p q : Nat) : al s p q ≤ s.size - q := alf_le s _ p q
theorem al_same {s : ByteArray} {p q j : Nat} (h : j < al s p q) : ub s (p + j) = ub s (q + j) := alf_same s _ p q j h
theorem al_stop {s : ByteArray} {p q : Nat} (h : q + al s p q < s.size) : ub s (p + al s p q) ≠ ub s (q + al s p q) := alf_stop s _ p q (by unfold al at h; omega)
theorem le_al {s : ByteArray} {p q m : Nat} (hm : q + m ≤ s.size) (h : ∀ j, j < m → ub s (p + j) = ub s (q + j)) : m ≤ al s p q := by
  rcases Nat.lt_or_ge (al s p q) m with c | c
  · exact absurd (h _ c) (al_stop (by omega))
  · exact c
theorem al_eq {s : ByteArray} {p q m : Nat} (hm : q + m ≤ s.size) (h : ∀ j, j < m → ub s (p + j) = ub s (q + j)) (hs : q + m < s.size → ub s (p + m) ≠ ub s (q + m)) : al s p q = m := by
  have h1 := le_al hm h
  rcases Nat.lt_or_ge m (al s p q) with c | c
  · have := al_le s p q
    exact absurd (al_same c) (hs (by omega))
  · omega
/-- The program's, which ends at 130. -/
theorem al_min {s : ByteArray} {p q m : Nat} (hm : q + m ≤ s.size) (h : ∀ j, j < m → ub s (p + j) = ub s (q + j)) (h130 : m ≤ 130) (hs : m < 130 → q + m < s.size → ub s (p + m) ≠ ub s (q + m)) : min (al s p q) 130 = m := by
  rcases Nat.lt_or_ge m 130 with c | c
  · rw [al_eq hm h (hs c)]; omega
  · have := le_al hm h; omega
/-- The document's search, b places back at most. -/
def bst (s : ByteArray) (at_ : Nat) : Nat → Nat × Nat
  | 0 => (0, 0)
  | b + 1 => if (bst s at_ b).1 < min (al s (at_ - (b + 1)) at_) 130 then (min (al s (at_ - (b + 1)) at_) 130, b + 1) else bst s at_ b
/-- .. of those alone that are of three bytes at least. -/
def bst3 (s : ByteArray) (at_ : Nat) : Nat → Nat × Nat
  | 0 => (0, 0)
  | b + 1 => if 3 ≤ al s (at_ - (b + 1)) at_ ∧ (bst3 s at_ b).1 < min (al s (at_ - (b + 1)) at_) 130 then (min (al s (at_ - (b + 1)) at_) 130, b + 1) else bst3 s at_ b
theorem bst3_eq (s : ByteArray) (at_ : Nat) : ∀ b, bst3 s at_ b = if 3 ≤ (bst s at_ b).1 then bst s at_ b else (0, 0)
  | 0 => rfl
  | b + 1 => by
    have ih := bst3_eq s at_ b
    rw [bst3, bst, ih]
    generalize al s (at_ - (b + 1)) at_ = k
    generalize bst s at_ b = r
    obtain ⟨n, m⟩ := r
    simp only
    by_cases h1 : 3 ≤ n
    · rw [if_pos h1]
      simp only
      by_cases h2 : n < min k 130
      · rw [if_pos ⟨by omega, h2⟩, if_pos h2]
        simp only
        rw [if_pos (by omega)]
      · rw [if_neg (fun h => h2 h.2), if_neg h2]
        simp only
        rw [if_pos h1]
    · rw [if_neg h1]
      simp only
      by_cases h3 : 3 ≤ k
      · rw [if_pos ⟨h3, by omega⟩, if_pos (show n < min k 130 by omega)]
        simp only
        rw [if_pos (by omega)]
      · rw [if_neg (fun h => h3 h.1)]
        by_cases h2 : n < min k 130
        · rw [if_pos h2]
          simp only
          rw [if_neg (by omega)]
        · rw [if_neg h2]
          simp only
          rw [if_neg h1]
/-- The longest text at a place that stood before, how long, and how far back (0, 0: none). -/
def R (s : ByteArray) (at_ : Nat) : Nat × Nat := bst3 s at_ (min 1023 at_)
theorem bst_le (s : ByteArray) (at_ : Nat) : ∀ b, (bst s at_ b).1 ≤ 130 ∧ (bst s at_ b).2 ≤ b ∧ at_ + (bst s at_ b).1 ≤ max at_ s.size
  | 0 => ⟨by simp [bst], by simp [bst], by simp [bst]; omega⟩
  | b + 1 => by
    have ih := bst_le s at_ b
    have hl := al_le s (at_ - (b + 1)) at_
    rw [bst]
    split
    · simp only; omega
    · omega
theorem R_doc (s : ByteArray) (at_ : Nat) : ((bst s at_ (min 1023 at_)).1 < 3 → (R s at_).1 = 0) ∧ (3 ≤ (bst s at_ (min 1023 at_)).1 → R s at_ = bst s at_ (min 1023 at_)) := by
  unfold R
  rw [bst3_eq]
  exact ⟨fun h => by rw [if_neg (by omega)], fun h => by rw [if_pos h]⟩
theorem R_le (s : ByteArray) (at_ : Nat) : (R s at_).1 ≤ 130 ∧ (R s at_).2 ≤ 1023 ∧ at_ + (R s at_).1 ≤ max at_ s.size ∧ ((R s at_).1 ≠ 0 → 3 ≤ (R s at_).1) := by
  have h := bst_le s at_ (min 1023 at_)
  unfold R
  rw [bst3_eq]
  split
  · exact ⟨h.1, by omega, h.2.2, fun _ => by assumption⟩
  · simp; omega
/-- Bytes as they are, told by 128 at most at once. -/
def T (l : List UInt8) : List UInt8 :=
  if l.length = 0 then [] else UInt8.ofNat (min l.length 128 - 1) :: (l.take 128 ++ T (l.drop 128))
termination_by l.length
decreasing_by simp; omega
theorem T_nil : T [] = [] := by rw [T]; rfl
theorem T_step (l : List UInt8) (h : 0 < l.length) : T l = UInt8.ofNat (min l.length 128 - 1) :: (l.take 128 ++ T (l.drop 128)) := by
  rw [T, if_neg (by omega)]
theorem T_short (l : List UInt8) (h : 0 < l.length) (h2 : l.length ≤ 128) : T l = UInt8.ofNat (l.length - 1) :: l := by
  rw [T_step l h, List.take_of_length_le h2, List.drop_eq_nil_of_le h2, T_nil, List.append_nil, Nat.min_eq_left h2]
theorem T_append (a b : List UInt8) (h : a.length % 128 = 0) : T (a ++ b) = T a ++ T b := by
  generalize hn : a.length = n at h
  induction n using Nat.strongRecOn generalizing a with
  | _ n ih =>
    rcases Nat.eq_zero_or_pos n with h0 | h0
    · obtain rfl : a = [] := List.eq_nil_of_length_eq_zero (by omega)
      rw [T_nil]; rfl
    · have hl : 128 ≤ a.length := by omega
      rw [T_step a (by omega), T_step (a ++ b) (by simp; omega), List.take_append_of_le_length hl, List.drop_append_of_le_length hl, ih (n - 128) (by omega) (a.drop 128) (by simp; omega) (by omega)]
      rw [show min (a ++ b).length 128 = 128 by simp; omega, show min a.length 128 = 128 by omega]
      simp
theorem T_len (l : List UInt8) : (T l).length ≤ 2 * l.length := by
  generalize hn : l.length = n
  induction n using Nat.strongRecOn generalizing l with
  | _ n ih =>
    rcases Nat.eq_zero_or_pos n with h0 | h0
    · obtain rfl : l = [] := List.eq_nil_of_length_eq_zero (by omega)
      rw [T_nil]; simp
    · have := ih (n - min n 128) (by omega) (l.drop 128) (by simp; omega)
      rw [T_step l (by omega)]
      simp
      omega
/-- What tells a text from a place on, behind what is told, and what waits. -/
def pk (s : ByteArray) (at_ : Nat) (od pd : List UInt8) : List UInt8 :=
  if at_ < s.size then
    if (R s at_).1 = 0 then pk s (at_ + 1) od (pd ++ [ub s at_])
    else pk s (at_ + (R s at_).1) (od ++ T pd ++ [UInt8.ofNat (125 + (R s at_).1), UInt8.ofNat ((R s at_).2 / 256), UInt8.ofNat (R s at_).2]) []
  else od ++ T pd
termination_by s.size - at_
theorem pk_end {s : ByteArray} {at_ : Nat} (h : s.size ≤ at_) (od pd : List UInt8) : pk s at_ od pd = od ++ T pd := by rw [pk, if_neg (by omega)]
theorem pk_byte {s : ByteArray} {at_ : Nat} (h : at_ < s.size) (h0 : (R s at_).1 = 0) (od pd : List UInt8) : pk s at_ od pd = pk s (at_ + 1) od (pd ++ [ub s at_]) := by rw [pk, if_pos h, if_pos h0]
theorem pk_back {s : ByteArray} {at_ : Nat} (h : at_ < s.size) (h0 : (R s at_).1 ≠ 0) (od pd : List UInt8) : pk s at_ od pd = pk s (at_ + (R s at_).1) (od ++ T pd ++ [UInt8.ofNat (125 + (R s at_).1), UInt8.ofNat ((R s at_).2 / 256), UInt8.ofNat (R s at_).2]) [] := by rw [pk, if_pos h, if_neg h0]
/-- What has been told, with what waits, of a program that tells 128 at once. -/
def Pk (s : ByteArray) (at_ : Nat) (o p : List UInt8) : Prop :=
  ∃ od a, o = od ++ T a ∧ a.length % 128 = 0 ∧ p.length < 128 ∧ pk s at_ od (a ++ p) = pk s 0 [] [] ∧ o.length + 2 * p.length ≤ 2 * at_
theorem pk_start (s : ByteArray) : Pk s 0 [] [] := ⟨[], [], by rw [T_nil]; rfl, rfl, by decide, rfl, by simp⟩
/-- What telling what waits makes. -/
def fl (o p : List UInt8) : List UInt8 := if p.length = 0 then o else o ++ UInt8.ofNat (p.length - 1) :: p
theorem fl_T {o p od a : List UInt8} (ho : o = od ++ T a) (ha : a.length % 128 = 0) (hp : p.length ≤ 128) : fl o p = od ++ T (a ++ p) := by
  unfold fl
  split
  · obtain rfl : p = [] := List.eq_nil_of_length_eq_zero (by assumption)
    rw [List.append_nil, ho]
  · rw [T_append _ _ ha, T_short p (by omega) hp, ho, List.append_assoc]
theorem fl_len (o p : List UInt8) : (fl o p).length ≤ o.length + 2 * p.length := by
  unfold fl
  split
  · omega
  · simp; omega
theorem Pk.byte {s : ByteArray} {at_ : Nat} {o p : List UInt8} (h : Pk s at_ o p) (hat : at_ < s.size) (h0 : (R s at_).1 = 0) :
    (p.length + 1 < 128 → Pk s (at_ + 1) o (p ++ [ub s at_])) ∧ (p.length + 1 = 128 → Pk s (at_ + 1) (fl o (p ++ [ub s at_])) []) := by
  obtain ⟨od, a, h1, h2, h3, h4, h5⟩ := h
  rw [pk_byte hat h0] at h4
  constructor
  · intro hl
    exact ⟨od, a, h1, h2, by simpa using hl, by rw [← h4, List.append_assoc], by simp; omega⟩
  · intro hl
    have hx := fl_len o (p ++ [ub s at_])
    refine ⟨od, a ++ (p ++ [ub s at_]), ?_, by simp; omega, by decide, by rw [← h4]; simp, ?_⟩
    · exact fl_T h1 h2 (by simp; omega)
    · simp at hx ⊢; omega
theorem Pk.back {s : ByteArray} {at_ : Nat} {o p : List UInt8} (h : Pk s at_ o p) (hat : at_ < s.size) (h0 : (R s at_).1 ≠ 0) :
    Pk s (at_ + (R s at_).1) (fl o p ++ [UInt8.ofNat (125 + (R s at_).1), UInt8.ofNat ((R s at_).2 / 256), UInt8.ofNat (R s at_).2]) [] := by
  obtain ⟨od, a, h1, h2, h3, h4, h5⟩ := h
  rw [pk_back hat h0] at h4
  have hx := fl_len o p
  have h3r := (R_le s at_).2.2.2 h0
  refine ⟨od ++ T (a ++ p) ++ [UInt8.ofNat (125 + (R s at_).1), UInt8.ofNat ((R s at_).2 / 256), UInt8.ofNat (R s at_).2], [], ?_, rfl, by decide, ?_, ?_⟩
  · rw [T_nil, List.append_nil, fl_T h1 h2 (by omega)]
  · rw [List.append_nil]; exact h4
  · simp; omega
theorem Pk.done {s : ByteArray} {at_ : Nat} {o p : List UInt8} (h : Pk s at_ o p) (hat : s.size ≤ at_) : fl o p = pk s 0 [] [] := by
  obtain ⟨od, a, h1, h2, h3, h4, h5⟩ := h
  rw [fl_T h1 h2 (by omega), ← h4, pk_end hat]
/-- The places ahead where the same three bytes stand. -/
def tri (s : ByteArray) (p q : Nat) : Prop := ub s p = ub s q ∧ ub s (p + 1) = ub s (q + 1) ∧ ub s (p + 2) = ub s (q + 2)
instance (s : ByteArray) (p q : Nat) : Decidable (tri s p q) := by unfold tri; infer_instance
def pos (s : ByteArray) (n q : Nat) : List Nat := (List.range n).filter fun p => decide (p + 3 ≤ s.size ∧ tri s p q)
theorem tri_al {s : ByteArray} {p q : Nat} (hq : q + 3 ≤ s.size) : tri s p q ↔ 3 ≤ al s p q := by
  constructor
  · rintro ⟨h0, h1, h2⟩
    refine le_al hq (fun j hj => ?_)
    rcases (show j = 0 ∨ j = 1 ∨ j = 2 by omega) with rfl | rfl | rfl
    · exact h0
    · exact h1
    · exact h2
  · intro h
    exact ⟨al_same (j := 0) (by omega), al_same (j := 1) (by omega), al_same (j := 2) (by omega)⟩
theorem pos_lt {s : ByteArray} {n q p : Nat} (h : p ∈ pos s n q) : p < n := List.mem_range.1 (List.mem_filter.1 h).1
theorem pos_up (s : ByteArray) (n q : Nat) : (pos s n q).Pairwise (· < ·) := List.Pairwise.filter _ List.pairwise_lt_range
/-- Where nothing of three bytes stands, the search goes on as it was. -/
theorem bst3_gap {s : ByteArray} {at_ a b : Nat} (hab : a ≤ b) (h : ∀ c, a < c → c ≤ b → ¬ 3 ≤ al s (at_ - c) at_) : bst3 s at_ b = bst3 s at_ a := by
  induction b with
  | zero => rw [show a = 0 by omega]
  | succ b ih =>
    by_cases e : a = b + 1
    · rw [e]
    · rw [bst3, if_neg (fun hh => h (b + 1) (by omega) (Nat.le_refl _) hh.1)]
      exact ih (by omega) (fun c h1 h2 => h c h1 (by omega))
theorem not_in_gap {s : ByteArray} {at_ : Nat} (hq : at_ + 3 ≤ s.size) {k : Nat} {c : Nat} (hc : 0 < c) (hca : c ≤ at_)
    (hlo : ∀ h : k < (pos s at_ at_).length, (pos s at_ at_)[k] < at_ - c) (hhi : ∀ h : k + 1 < (pos s at_ at_).length, at_ - c < (pos s at_ at_)[k + 1])
    (hlo0 : (pos s at_ at_).length ≤ k → False) : ¬ 3 ≤ al s (at_ - c) at_ := by
  intro h3
  have hm : at_ - c ∈ pos s at_ at_ := List.mem_filter.2 ⟨List.mem_range.2 (by omega), by
    rw [decide_eq_true_eq]
    exact ⟨by omega, (tri_al hq).2 h3⟩⟩
  obtain ⟨j, hj, hje⟩ := List.getElem_of_mem hm
  have hup := List.pairwise_iff_getElem.1 (pos_up s at_ at_)
  have hk : k < (pos s at_ at_).length := by
    rcases Nat.lt_or_ge k (pos s at_ at_).length with c | c
    · exact c
    · exact (hlo0 c).elim
  have h1 := hlo hk
  rcases Nat.lt_trichotomy j k with c | c | c
  · have := hup j k hj hk c; omega
  · subst c; omega
  · by_cases e : j = k + 1
    · subst e; have := hhi hj; omega
    · have := hup (k + 1) j (by omega) hj (by omega)
      have := hhi (by omega)
      omega
theorem not_before {s : ByteArray} {at_ : Nat} (hq : at_ + 3 ≤ s.size) {c : Nat} (hc : 0 < c) (hca : c ≤ at_)
    (hhi : ∀ h : 0 < (pos s at_ at_).length, at_ - c < (pos s at_ at_)[0]) : ¬ 3 ≤ al s (at_ - c) at_ := by
  intro h3
  have hm : at_ - c ∈ pos s at_ at_ := List.mem_filter.2 ⟨List.mem_range.2 (by omega), by
    rw [decide_eq_true_eq]
    exact ⟨by omega, (tri_al hq).2 h3⟩⟩
  obtain ⟨j, hj, hje⟩ := List.getElem_of_mem hm
  have hup := List.pairwise_iff_getElem.1 (pos_up s at_ at_)
  have h0 := hhi (by omega)
  rcases Nat.eq_zero_or_pos j with e | e
  · subst e; omega
  · have := hup 0 j (by omega) hj e; omega
/-- What is found, from the k nearest.. on down: those of number k and on have been looked at. -/
def Sr (s : ByteArray) (at_ k : Nat) (r : Nat × Nat) : Prop :=
  k ≤ (pos s at_ at_).length ∧ ∀ D, D ≤ at_ → (∀ h : k < (pos s at_ at_).length, at_ - (pos s at_ at_)[k] ≤ D) → (∀ h : k - 1 < (pos s at_ at_).length, 0 < k → D < at_ - (pos s at_ at_)[k - 1]) → bst3 s at_ D = r
theorem sr_start {s : ByteArray} {at_ : Nat} (hq : at_ + 3 ≤ s.size) : Sr s at_ (pos s at_ at_).length (0, 0) := by
  refine ⟨Nat.le_refl _, fun D hD _ h2 => ?_⟩
  rw [bst3_gap (a := 0) (Nat.zero_le _) (fun c hc hcb => ?_)]
  · rfl
  · rcases Nat.eq_zero_or_pos (pos s at_ at_).length with e | e
    · exact not_before hq hc (by omega) (fun h => by omega)
    · exact not_in_gap hq (k := (pos s at_ at_).length - 1) hc (by omega) (fun h => by have := h2 h e; omega) (fun h => by omega) (fun h => by omega)
/-- One place more is looked at. -/
theorem sr_step {s : ByteArray} {at_ k : Nat} {r : Nat × Nat} (hq : at_ + 3 ≤ s.size) (h : Sr s at_ (k + 1) r) (hk : k < (pos s at_ at_).length) :
    Sr s at_ k (if r.1 < min (al s (pos s at_ at_)[k] at_) 130 then (min (al s (pos s at_ at_)[k] at_) 130, at_ - (pos s at_ at_)[k]) else r) := by
  have hup := List.pairwise_iff_getElem.1 (pos_up s at_ at_)
  have hlt := pos_lt (List.getElem_mem hk)
  have h3 : 3 ≤ al s (pos s at_ at_)[k] at_ := by
    have := (List.mem_filter.1 (List.getElem_mem hk)).2
    rw [decide_eq_true_eq] at this
    exact (tri_al hq).1 this.2
  refine ⟨Nat.le_of_lt hk, fun D hD h1 h2 => ?_⟩
  have hDk := h1 hk
  have hpre := h.2 (at_ - (pos s at_ at_)[k] - 1) (by omega) (fun hh => by have := hup k (k + 1) hk hh (by omega); omega) (fun _ _ => by simp only [Nat.add_sub_cancel]; omega)
  rw [bst3_gap (a := at_ - (pos s at_ at_)[k]) hDk (fun c hc hcb => ?_)]
  · have e : at_ - (pos s at_ at_)[k] = (at_ - (pos s at_ at_)[k] - 1) + 1 := by omega
    have e2 : at_ - ((at_ - (pos s at_ at_)[k] - 1) + 1) = (pos s at_ at_)[k] := by omega
    conv => lhs; rw [e]
    rw [bst3, hpre, e2]
    by_cases hc : r.1 < min (al s (pos s at_ at_)[k] at_) 130
    · rw [if_pos ⟨h3, hc⟩, if_pos hc, ← e]
    · rw [if_neg (fun hh => hc hh.2), if_neg hc]
  · rcases Nat.eq_zero_or_pos k with e | e
    · subst e
      exact not_before hq (by omega) (by omega) (fun _ => by omega)
    · refine not_in_gap hq (k := k - 1) (by omega) (by omega) (fun hh => by have := h2 hh e; omega) (fun hh => ?_) (fun hh => by omega)
      have e3 : (pos s at_ at_)[k - 1 + 1] = (pos s at_ at_)[k] := by congr 1; omega
      rw [e3]; omega
theorem sr_end {s : ByteArray} {at_ : Nat} {r : Nat × Nat} (h : Sr s at_ 0 r) (hn : ∀ h : 0 < (pos s at_ at_).length, at_ - (pos s at_ at_)[0] ≤ 1023) : R s at_ = r := by
  unfold R
  rw [← h.2 at_ (Nat.le_refl _) (fun _ => by omega) (fun _ h0 => absurd h0 (Nat.lt_irrefl _))]
  rcases Nat.lt_or_ge 1023 at_ with c | c
  · rw [Nat.min_eq_left (by omega)]
    rw [h.2 at_ (Nat.le_refl _) (fun _ => by omega) (fun _ h0 => absurd h0 (Nat.lt_irrefl _))]
    exact h.2 1023 (by omega) hn (fun _ h0 => absurd h0 (Nat.lt_irrefl _))
  · rw [Nat.min_eq_right c]
theorem sr_far {s : ByteArray} {at_ k : Nat} {r : Nat × Nat} (h : Sr s at_ (k + 1) r) (hk : k < (pos s at_ at_).length) (hf : 1023 < at_ - (pos s at_ at_)[k]) (hn : ∀ h : k + 1 < (pos s at_ at_).length, at_ - (pos s at_ at_)[k + 1] ≤ 1023) : R s at_ = r := by
  unfold R
  rw [Nat.min_eq_left (by omega)]
  exact h.2 1023 (by omega) hn (fun _ _ => by simp only [Nat.add_sub_cancel]; exact hf)
theorem R_none {s : ByteArray} {at_ : Nat} (h : s.size < at_ + 3) : R s at_ = (0, 0) := by
  unfold R
  rw [bst3_gap (a := 0) (Nat.zero_le _) (fun c _ _ h3 => by have := al_le s (at_ - c) at_; omega)]
  rfl
end Go.Proofs.YtnbpninnanjemaaDoor.Lz
