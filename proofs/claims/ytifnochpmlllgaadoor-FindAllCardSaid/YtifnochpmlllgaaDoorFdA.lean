/-
  PROVED HERE: what pattern of half bytes a text is, as one function; contracts of find.Read and of the document's MaskRead. Conditions: as each theorem states.
-/
import Derived.Test.YtifnochpmlllgaaDoorErrB
import Derived.Test.YtifnochpmlllgaaDoorOwn
import Derived.Test.YtifnochpmlllgaaDoorShelf
namespace Go.Proofs.YtifnochpmlllgaaDoor.Fd
open Go.RowKit

/-- A byte as half a byte: -1: any; -2: none. -/
def md (c : Nat) : Int := if c = 63 then -1 else if 48 ≤ c ∧ c ≤ 57 then (c : Int) - 48 else if 97 ≤ c ∧ c ≤ 102 then (c : Int) - 97 + 10 else -2
def mr : List UInt8 → List Int → Option (List Int)
  | [], out => if out.length = 0 ∨ out.length % 2 = 1 then none else some out
  | c :: cs, out => if c.toNat = 32 ∧ out.length % 2 = 0 then mr cs out else if md c.toNat = -2 then none else mr cs (out ++ [md c.toNat])
def mrs (s : ByteArray) (k : Nat) (out : List Int) : Option (List Int) := mr (s.data.toList.drop k) out
theorem mrs_step (s : ByteArray) (k : Nat) (out : List Int) (h : k < s.size) : mrs s k out = if s[k].toNat = 32 ∧ out.length % 2 = 0 then mrs s (k + 1) out else if md s[k].toNat = -2 then none else mrs s (k + 1) (out ++ [md s[k].toNat]) := by
  have e : s.data.toList.length = s.size := rfl
  unfold mrs
  rw [List.drop_eq_getElem_cons (by omega), mr]
  rfl
theorem mrs_end (s : ByteArray) (k : Nat) (out : List Int) (h : s.size ≤ k) : mrs s k out = if out.length = 0 ∨ out.length % 2 = 1 then none else some out := by
  have e : s.data.toList.length = s.size := rfl
  unfold mrs
  rw [List.drop_eq_nil_of_le (by omega), mr]
theorem mr_len : ∀ (cs : List UInt8) (out l : List Int), mr cs out = some l → l.length ≤ out.length + cs.length
  | [], out, l, h => by
    rw [mr] at h
    split at h
    · cases h
    · injection h with h; subst h; simp
  | c :: cs, out, l, h => by
    rw [mr] at h
    split at h
    · have := mr_len cs out l h; simp; omega
    · split at h
      · cases h
      · have := mr_len cs _ l h; simp at this ⊢; omega
theorem mr_even : ∀ (cs : List UInt8) (out l : List Int), mr cs out = some l → l.length % 2 = 0
  | [], out, l, h => by
    rw [mr] at h
    split at h
    · cases h
    · injection h with h; subst h; omega
  | c :: cs, out, l, h => by
    rw [mr] at h
    split at h
    · exact mr_even cs out l h
    · split at h
      · cases h
      · exact mr_even cs _ l h
def zl (Z : Option (List Int)) : List Int := match Z with | none => [] | some l => l
def zc (Z : Option (List Int)) : Int := match Z with | none => 3 | some _ => 0
theorem ints_nil (w : World) : Ints w (.slice none 0 0) [] := ⟨none, 0, rfl, fun j hj => absurd hj (Nat.not_lt_zero j)⟩
def RP (Z : Option (List Int)) (W : World) (e : Ending) (w' : World) : Prop := ∃ v x, e = .returned (.tuple #[v, x]) ∧ Ints w' v (zl Z) ∧ Err.ErrIs w' x (zc Z) (-1) ∧ Below W.heap.size W w'
def DP (Z : Option (List Int)) (W : World) (e : Ending) (w' : World) : Prop := ∃ v, e = .returned (.tuple #[v, .int .i64 (zc Z)]) ∧ Ints w' v (zl Z) ∧ Below W.heap.size W w'
def Rl (s : ByteArray) (Z : Option (List Int)) (W : World) (v i : Value) (wr : World) : Prop := ∃ (k : Nat) (out : List Int), k ≤ s.size ∧ i = .int .i64 k ∧ Hid (mrs s k out = Z) ∧ Hid (out.length ≤ k) ∧ (∃ a cap, v = .slice a out.length cap) ∧ Hid (Own wr W.heap.size 3 v (i64s out)) ∧ Hid (Below W.heap.size W wr)
theorem idx_all : ∀ c : Fin 256, Lib.indexByte [48, 49, 50, 51, 52, 53, 54, 55, 56, 57, 97, 98, 99, 100, 101, 102, 63] (UInt8.ofNat c.val) = if md c.val = -1 then 16 else if md c.val = -2 then -1 else md c.val := by decide +kernel
theorem md_bounds (c : Nat) : -2 ≤ md c ∧ md c ≤ 15 := by unfold md; omega
set_option maxRecDepth 100000 in
set_option maxHeartbeats 2000000 in
theorem read_any (s : ByteArray) (hs : s.size ≤ 1000) (W : World) : Calls Tryd.prog 51 #[.string s] W (RP (mrs s 0 []) W) := by
  generalize hZ0 : mrs s 0 [] = Z
  have hZ := Lib.hid hZ0
  clear hZ0
  go_enter Tryd.func51, Tryd.ntmps51
  go_wp2_with fail
  go_loopw [4, 9] (fun v i wr => Rl s Z W v i wr) (fun _ i _ => s.size - (intOf i).toNat)
  case atStart => exact ⟨0, [], Nat.zero_le _, rfl, hZ, Lib.hid (Nat.le_refl _), ⟨_, _, rfl⟩, Lib.hid (own_nil _ _ _), Lib.hid (Below.refl _ _)⟩
  case round =>
    obtain ⟨k, out, hk, rfl, hu, hol, ⟨a, cap, rfl⟩, ho, hBH⟩ := hrel
    clear hZ
    have hol2 : out.length ≤ 1000 := by have := hol.out; omega
    by_cases hlt : k < s.size
    · have hst := mrs_step s k out hlt
      rw [hu.out] at hst
      have hb3 : s[k].toNat < 256 := UInt8.toNat_lt _
      have IX : Hid (Lib.indexByte [48, 49, 50, 51, 52, 53, 54, 55, 56, 57, 97, 98, 99, 100, 101, 102, 63] ((s[k].toNat : Int).toNat.toUInt8) = if md s[k].toNat = -1 then 16 else if md s[k].toNat = -2 then -1 else md s[k].toNat) := Lib.hid (by
        have := idx_all ⟨s[k].toNat, hb3⟩
        rw [← this]; congr 1)
      have hpar : ((out.length : Int) % 2 == 0) = decide (out.length % 2 = 0) := by
        by_cases h : out.length % 2 = 0
        · rw [decide_eq_true h, beq_iff_eq]; omega
        · rw [decide_eq_false h, beq_eq_false_iff_ne]; omega
      have hpar1 : ((out.length : Int) % 2 == 1) = decide (out.length % 2 = 1) := by
        by_cases h : out.length % 2 = 1
        · rw [decide_eq_true h, beq_iff_eq]; omega
        · rw [decide_eq_false h, beq_eq_false_iff_ne]; omega
      by_cases h32 : s[k].toNat = 32
      · have b1 : ((s[k].toNat : Int) == 32) = true := by rw [beq_iff_eq]; omega
        by_cases he : out.length % 2 = 0
        · rw [if_pos ⟨h32, he⟩] at hst
          have hu2 := Lib.hid hst.symm
          rw [decide_eq_true he] at hpar
          clear hst hpar1 h32 IX
          go_wp2_with fail
          go_roundw
          case rel => first | exact ⟨k + 1, out, by omega, by go_num, hu2, Lib.hid (by have := hol.out; omega), ⟨_, _, rfl⟩, ho, hBH⟩ | ((repeat apply Exists.intro); exact ⟨⟨k + 1, out, by omega, by go_num, hu2, Lib.hid (by have := hol.out; omega), ⟨_, _, rfl⟩, ho, hBH⟩, rfl⟩)
          case measure => simp [intOf]; omega
        · rw [if_neg (fun h => he h.2), if_pos (by rw [h32]; decide)] at hst
          have hu2 := Lib.hid hst
          rw [decide_eq_false he] at hpar
          have b2 : ((s[k].toNat : Int) == 63) = false := by rw [beq_eq_false_iff_ne]; omega
          have b3 : decide ((48 : Int) ≤ (s[k].toNat : Int)) = false := decide_eq_false (by omega)
          have b4 : decide ((97 : Int) ≤ (s[k].toNat : Int)) = false := decide_eq_false (by omega)
          clear hst hpar1 h32 IX
          go_wp2_with fail
          go_ret2
          rw [hu2.out]
          exact ⟨_, _, rfl, ints_nil _, .inr (.inl ⟨rfl, rfl⟩), hBH.out⟩
      rw [if_neg (fun h => h32 h.1)] at hst
      have b1 : ((s[k].toNat : Int) == 32) = false := by rw [beq_eq_false_iff_ne]; omega
      by_cases h63 : s[k].toNat = 63
      · have e : md s[k].toNat = -1 := by rw [h63]; rfl
        rw [e, if_neg (by decide)] at hst
        have hu2 := Lib.hid hst.symm
        have b2 : ((s[k].toNat : Int) == 63) = true := by rw [beq_iff_eq]; omega
        clear hst hpar hpar1 h63 h32 IX e
        go_wp2_with (at_builtin; refine own_append1 rfl _ _ 81 rfl W.heap.size 3 (.int .i64 0) 8 Tryd.underlying81 (by kernel_rfl) rfl _ _ rfl (ho.out.alloc _) _ 1 _ rfl (new_cell _ _ _) rfl (by rw [i64s_len]; omega) (by rw [i64s_len]; omega) (le_alloc hBH.out.size _) ?_; intro v1 w1 ho1 hg1 hb1 hat1; have hb2 := below_append (Below.refl W.heap.size _) _ hBH.out.size hb1; rw [i64s_snoc] at ho1; have hB1 := Lib.hid (hBH.out.trans hb2); have ho1H := Lib.hid ho1; clear hg1 hb1 hat1 hb2 ho1)
        go_roundw
        case rel => first | exact ⟨k + 1, _, by omega, by go_num, hu2, Lib.hid (by have := hol.out; simp; omega), (by obtain ⟨a', c', e'⟩ := ho1H.out.len; rw [i64s_len] at e'; exact ⟨a', c', e'⟩), ho1H, hB1⟩ | ((repeat apply Exists.intro); exact ⟨⟨k + 1, _, by omega, by go_num, hu2, Lib.hid (by have := hol.out; simp; omega), (by obtain ⟨a', c', e'⟩ := ho1H.out.len; rw [i64s_len] at e'; exact ⟨a', c', e'⟩), ho1H, hB1⟩, rfl⟩)
        case measure => simp [intOf]; omega
      have b2 : ((s[k].toNat : Int) == 63) = false := by rw [beq_eq_false_iff_ne]; omega
      by_cases hd : 48 ≤ s[k].toNat ∧ s[k].toNat ≤ 57
      · have e : md s[k].toNat = (s[k].toNat : Int) - 48 := by unfold md; rw [if_neg h63, if_pos hd]
        rw [e, if_neg (by omega)] at hst
        have hu2 := Lib.hid hst.symm
        obtain ⟨d1, d2⟩ := hd
        clear hst hpar hpar1 h63 h32 IX e
        go_wp2_with (at_builtin; refine own_append1 rfl _ _ 81 rfl W.heap.size 3 (.int .i64 0) 8 Tryd.underlying81 (by kernel_rfl) rfl _ _ rfl (ho.out.alloc _) _ 1 _ rfl (new_cell _ _ _) rfl (by rw [i64s_len]; omega) (by rw [i64s_len]; omega) (le_alloc hBH.out.size _) ?_; intro v1 w1 ho1 hg1 hb1 hat1; have hb2 := below_append (Below.refl W.heap.size _) _ hBH.out.size hb1; rw [i64s_snoc] at ho1; have hB1 := Lib.hid (hBH.out.trans hb2); have ho1H := Lib.hid ho1; clear hg1 hb1 hat1 hb2 ho1)
        go_roundw
        case rel => first | exact ⟨k + 1, _, by omega, by go_num, hu2, Lib.hid (by have := hol.out; simp; omega), (by obtain ⟨a', c', e'⟩ := ho1H.out.len; rw [i64s_len] at e'; exact ⟨a', c', e'⟩), ho1H, hB1⟩ | ((repeat apply Exists.intro); exact ⟨⟨k + 1, _, by omega, by go_num, hu2, Lib.hid (by have := hol.out; simp; omega), (by obtain ⟨a', c', e'⟩ := ho1H.out.len; rw [i64s_len] at e'; exact ⟨a', c', e'⟩), ho1H, hB1⟩, rfl⟩)
        case measure => simp [intOf]; omega
      by_cases hf : 97 ≤ s[k].toNat ∧ s[k].toNat ≤ 102
      · have e : md s[k].toNat = (s[k].toNat : Int) - 97 + 10 := by unfold md; rw [if_neg h63, if_neg hd, if_pos hf]
        rw [e, if_neg (by omega)] at hst
        have hu2 := Lib.hid hst.symm
        obtain ⟨d1, d2⟩ := hf
        have d3 : ¬ s[k].toNat ≤ 57 := by omega
        have d4 : 48 ≤ s[k].toNat := by omega
        clear hst hpar hpar1 h63 h32 IX e hd
        go_wp2_with (at_builtin; refine own_append1 rfl _ _ 81 rfl W.heap.size 3 (.int .i64 0) 8 Tryd.underlying81 (by kernel_rfl) rfl _ _ rfl (ho.out.alloc _) _ 1 _ rfl (new_cell _ _ _) rfl (by rw [i64s_len]; omega) (by rw [i64s_len]; omega) (le_alloc hBH.out.size _) ?_; intro v1 w1 ho1 hg1 hb1 hat1; have hb2 := below_append (Below.refl W.heap.size _) _ hBH.out.size hb1; rw [i64s_snoc] at ho1; have hB1 := Lib.hid (hBH.out.trans hb2); have ho1H := Lib.hid ho1; clear hg1 hb1 hat1 hb2 ho1)
        go_roundw
        case rel => first | exact ⟨k + 1, _, by omega, by go_num, hu2, Lib.hid (by have := hol.out; simp; omega), (by obtain ⟨a', c', e'⟩ := ho1H.out.len; rw [i64s_len] at e'; exact ⟨a', c', e'⟩), ho1H, hB1⟩ | ((repeat apply Exists.intro); exact ⟨⟨k + 1, _, by omega, by go_num, hu2, Lib.hid (by have := hol.out; simp; omega), (by obtain ⟨a', c', e'⟩ := ho1H.out.len; rw [i64s_len] at e'; exact ⟨a', c', e'⟩), ho1H, hB1⟩, rfl⟩)
        case measure => simp [intOf]; omega
      · have e : md s[k].toNat = -2 := by unfold md; rw [if_neg h63, if_neg hd, if_neg hf]
        rw [e, if_pos rfl] at hst
        have hu2 := Lib.hid hst
        clear hst hpar hpar1 h63 h32 IX e
        rcases (show s[k].toNat < 48 ∨ (48 ≤ s[k].toNat ∧ 57 < s[k].toNat ∧ s[k].toNat < 97) ∨ (48 ≤ s[k].toNat ∧ 57 < s[k].toNat ∧ 97 ≤ s[k].toNat ∧ 102 < s[k].toNat) by omega) with c1 | ⟨c1, c2, c3⟩ | ⟨c1, c2, c3, c4⟩
        all_goals
          clear hd hf
          go_wp2_with fail
          go_ret2
          rw [hu2.out]
          exact ⟨_, _, rfl, ints_nil _, .inr (.inl ⟨rfl, rfl⟩), hBH.out⟩
    · have hst := mrs_end s k out (by omega)
      rw [hu.out] at hst
      rcases (show out.length = 0 ∨ (out.length ≠ 0 ∧ out.length % 2 = 1) ∨ (out.length ≠ 0 ∧ out.length % 2 = 0) by omega) with c1 | ⟨c1, c2⟩ | ⟨c1, c2⟩
      · rw [if_pos (.inl c1)] at hst
        have hu2 := Lib.hid hst
        have b1 : ((out.length : Int) == 0) = true := by rw [beq_iff_eq]; omega
        clear hst c1
        go_wp2_with fail
        go_ret2
        rw [hu2.out]
        exact ⟨_, _, rfl, ints_nil _, .inr (.inl ⟨rfl, rfl⟩), hBH.out⟩
      · rw [if_pos (.inr c2)] at hst
        have hu2 := Lib.hid hst
        have b1 : ((out.length : Int) == 0) = false := by rw [beq_eq_false_iff_ne]; omega
        have b2 : ((out.length : Int) % 2 == 1) = true := by rw [beq_iff_eq]; omega
        clear hst c1 c2
        go_wp2_with fail
        go_ret2
        rw [hu2.out]
        exact ⟨_, _, rfl, ints_nil _, .inr (.inl ⟨rfl, rfl⟩), hBH.out⟩
      · rw [if_neg (by omega)] at hst
        have hu2 := Lib.hid hst
        have b1 : ((out.length : Int) == 0) = false := by rw [beq_eq_false_iff_ne]; omega
        have b2 : ((out.length : Int) % 2 == 1) = false := by rw [beq_eq_false_iff_ne]; omega
        clear hst c1 c2
        go_wp2_with fail
        go_ret2
        rw [hu2.out]
        exact ⟨_, _, rfl, ho.out.ints, .inl ⟨rfl, rfl, rfl⟩, hBH.out⟩
set_option maxRecDepth 100000 in
set_option maxHeartbeats 2000000 in
theorem docRead_any (s : ByteArray) (hs : s.size ≤ 1000) (W : World) : Calls Tryd.prog 50 #[.string s] W (DP (mrs s 0 []) W) := by
  generalize hZ0 : mrs s 0 [] = Z
  have hZ := Lib.hid hZ0
  clear hZ0
  go_enter Tryd.func50, Tryd.ntmps50
  go_wp2_with fail
  go_loopw [4, 9] (fun v i wr => Rl s Z W v i wr) (fun _ i _ => s.size - (intOf i).toNat)
  case atStart => exact ⟨0, [], Nat.zero_le _, rfl, hZ, Lib.hid (Nat.le_refl _), ⟨_, _, rfl⟩, Lib.hid (own_nil _ _ _), Lib.hid (Below.refl _ _)⟩
  case round =>
    obtain ⟨k, out, hk, rfl, hu, hol, ⟨a, cap, rfl⟩, ho, hBH⟩ := hrel
    clear hZ
    have hol2 : out.length ≤ 1000 := by have := hol.out; omega
    by_cases hlt : k < s.size
    · have hst := mrs_step s k out hlt
      rw [hu.out] at hst
      have hb3 : s[k].toNat < 256 := UInt8.toNat_lt _
      have IX : Hid (Lib.indexByte [48, 49, 50, 51, 52, 53, 54, 55, 56, 57, 97, 98, 99, 100, 101, 102, 63] ((s[k].toNat : Int).toNat.toUInt8) = if md s[k].toNat = -1 then 16 else if md s[k].toNat = -2 then -1 else md s[k].toNat) := Lib.hid (by
        have := idx_all ⟨s[k].toNat, hb3⟩
        rw [← this]; congr 1)
      have hpar : ((out.length : Int) % 2 == 0) = decide (out.length % 2 = 0) := by
        by_cases h : out.length % 2 = 0
        · rw [decide_eq_true h, beq_iff_eq]; omega
        · rw [decide_eq_false h, beq_eq_false_iff_ne]; omega
      have hpar1 : ((out.length : Int) % 2 == 1) = decide (out.length % 2 = 1) := by
        by_cases h : out.length % 2 = 1
        · rw [decide_eq_true h, beq_iff_eq]; omega
        · rw [decide_eq_false h, beq_eq_false_iff_ne]; omega
      have mb := md_bounds s[k].toNat
      have call : True := trivial
      by_cases h63 : md s[k].toNat = -1
      · rw [if_pos h63] at IX
        have hn : ¬ (s[k].toNat = 32 ∧ out.length % 2 = 0) := fun h => by rw [h.1] at h63; revert h63; decide
        rw [if_neg hn, h63, if_neg (by decide)] at hst
        have hu2 := Lib.hid hst.symm
        clear hst hpar hpar1 h63 hn mb
        go_wp2_with fail
        refine (Tryd.strings_IndexByte _ _ _).mono ?_; rintro e w' ⟨rfl, rfl⟩
        rw [IX.out]
        go_wp2_with (at_builtin; refine own_append1 rfl _ _ 50 rfl W.heap.size 3 (.int .i64 0) 8 Tryd.underlying50 (by kernel_rfl) rfl _ _ rfl (ho.out.alloc _) _ 1 _ rfl (new_cell _ _ _) rfl (by rw [i64s_len]; omega) (by rw [i64s_len]; omega) (le_alloc hBH.out.size _) ?_; intro v1 w1 ho1 hg1 hb1 hat1; have hb2 := below_append (Below.refl W.heap.size _) _ hBH.out.size hb1; rw [i64s_snoc] at ho1; have hB1 := Lib.hid (hBH.out.trans hb2); have ho1H := Lib.hid ho1; clear hg1 hb1 hat1 hb2 ho1)
        go_roundw
        case rel => first | exact ⟨k + 1, _, by omega, by go_num, hu2, Lib.hid (by have := hol.out; simp; omega), (by obtain ⟨a', c', e'⟩ := ho1H.out.len; rw [i64s_len] at e'; exact ⟨a', c', e'⟩), ho1H, hB1⟩ | ((repeat apply Exists.intro); exact ⟨⟨k + 1, _, by omega, by go_num, hu2, Lib.hid (by have := hol.out; simp; omega), (by obtain ⟨a', c', e'⟩ := ho1H.out.len; rw [i64s_len] at e'; exact ⟨a', c', e'⟩), ho1H, hB1⟩, rfl⟩)
        case measure => simp [intOf]; omega
      rw [if_neg h63] at IX
      by_cases hno : md s[k].toNat = -2
      · rw [if_pos hno] at IX
        by_cases hsp : s[k].toNat = 32 ∧ out.length % 2 = 0
        · rw [if_pos hsp] at hst
          have hu2 := Lib.hid hst.symm
          have b1 : ((s[k].toNat : Int) != 32) = false := by rw [bne_eq_false_iff_eq]; omega
          rw [decide_eq_false (by omega)] at hpar1
          clear hst hpar h63 hno mb hsp
          go_wp2_with fail
          refine (Tryd.strings_IndexByte _ _ _).mono ?_; rintro e w' ⟨rfl, rfl⟩
          rw [IX.out]
          go_wp2_with fail
          go_roundw
          case rel => first | exact ⟨k + 1, out, by omega, by go_num, hu2, Lib.hid (by have := hol.out; omega), ⟨_, _, rfl⟩, ho, hBH⟩ | ((repeat apply Exists.intro); exact ⟨⟨k + 1, out, by omega, by go_num, hu2, Lib.hid (by have := hol.out; omega), ⟨_, _, rfl⟩, ho, hBH⟩, rfl⟩)
          case measure => simp [intOf]; omega
        · rw [if_neg hsp, if_pos hno] at hst
          have hu2 := Lib.hid hst
          rcases (show s[k].toNat ≠ 32 ∨ (s[k].toNat = 32 ∧ out.length % 2 = 1) by omega) with c1 | ⟨c1, c2⟩
          · have b1 : ((s[k].toNat : Int) != 32) = true := by rw [bne_iff_ne]; omega
            clear hst hpar hpar1 h63 hno mb hsp c1
            go_wp2_with fail
            refine (Tryd.strings_IndexByte _ _ _).mono ?_; rintro e w' ⟨rfl, rfl⟩
            rw [IX.out]
            go_wp2_with fail
            go_ret2
            rw [hu2.out]
            exact ⟨_, rfl, ints_nil _, hBH.out⟩
          · have b1 : ((s[k].toNat : Int) != 32) = false := by rw [bne_eq_false_iff_eq]; omega
            rw [decide_eq_true c2] at hpar1
            clear hst hpar h63 hno mb hsp c1 c2
            go_wp2_with fail
            refine (Tryd.strings_IndexByte _ _ _).mono ?_; rintro e w' ⟨rfl, rfl⟩
            rw [IX.out]
            go_wp2_with fail
            go_ret2
            rw [hu2.out]
            exact ⟨_, rfl, ints_nil _, hBH.out⟩
      · rw [if_neg hno] at IX
        have hn : ¬ (s[k].toNat = 32 ∧ out.length % 2 = 0) := fun h => by rw [h.1] at hno; exact hno rfl
        rw [if_neg hn, if_neg hno] at hst
        have hu2 := Lib.hid hst.symm
        have m0 : 0 ≤ md s[k].toNat := by omega
        have m1 : md s[k].toNat ≤ 15 := mb.2
        have m2 : (md s[k].toNat == 16) = false := by rw [beq_eq_false_iff_ne]; omega
        clear hst hpar hpar1 h63 hn mb hno
        go_wp2_with fail
        refine (Tryd.strings_IndexByte _ _ _).mono ?_; rintro e w' ⟨rfl, rfl⟩
        rw [IX.out]
        go_wp2_with (at_builtin; refine own_append1 rfl _ _ 50 rfl W.heap.size 3 (.int .i64 0) 8 Tryd.underlying50 (by kernel_rfl) rfl _ _ rfl (ho.out.alloc _) _ 1 _ rfl (new_cell _ _ _) rfl (by rw [i64s_len]; omega) (by rw [i64s_len]; omega) (le_alloc hBH.out.size _) ?_; intro v1 w1 ho1 hg1 hb1 hat1; have hb2 := below_append (Below.refl W.heap.size _) _ hBH.out.size hb1; rw [i64s_snoc] at ho1; have hB1 := Lib.hid (hBH.out.trans hb2); have ho1H := Lib.hid ho1; clear hg1 hb1 hat1 hb2 ho1)
        go_roundw
        case rel => first | exact ⟨k + 1, _, by omega, by go_num, hu2, Lib.hid (by have := hol.out; simp; omega), (by obtain ⟨a', c', e'⟩ := ho1H.out.len; rw [i64s_len] at e'; exact ⟨a', c', e'⟩), ho1H, hB1⟩ | ((repeat apply Exists.intro); exact ⟨⟨k + 1, _, by omega, by go_num, hu2, Lib.hid (by have := hol.out; simp; omega), (by obtain ⟨a', c', e'⟩ := ho1H.out.len; rw [i64s_len] at e'; exact ⟨a', c', e'⟩), ho1H, hB1⟩, rfl⟩)
        case measure => simp [intOf]; omega
    · have hst := mrs_end s k out (by omega)
      rw [hu.out] at hst
      rcases (show out.length = 0 ∨ (out.length ≠ 0 ∧ out.length % 2 = 1) ∨ (out.length ≠ 0 ∧ out.length % 2 = 0) by omega) with c1 | ⟨c1, c2⟩ | ⟨c1, c2⟩
      · rw [if_pos (.inl c1)] at hst
        have hu2 := Lib.hid hst
        have b1 : ((out.length : Int) == 0) = true := by rw [beq_iff_eq]; omega
        clear hst c1
        go_wp2_with fail
        go_ret2
        rw [hu2.out]
        exact ⟨_, rfl, ints_nil _, hBH.out⟩
      · rw [if_pos (.inr c2)] at hst
        have hu2 := Lib.hid hst
        have b1 : ((out.length : Int) == 0) = false := by rw [beq_eq_false_iff_ne]; omega
        have b2 : ((out.length : Int) % 2 == 1) = true := by rw [beq_iff_eq]; omega
        clear hst c1 c2
        go_wp2_with fail
        go_ret2
        rw [hu2.out]
        exact ⟨_, rfl, ints_nil _, hBH.out⟩
      · rw [if_neg (by omega)] at hst
        have hu2 := Lib.hid hst
        have b1 : ((out.length : Int) == 0) = false := by rw [beq_eq_false_iff_ne]; omega
        have b2 : ((out.length : Int) % 2 == 1) = false := by rw [beq_eq_false_iff_ne]; omega
        clear hst c1 c2
        go_wp2_with fail
        go_ret2
        rw [hu2.out]
        exact ⟨_, rfl, ho.out.ints, hBH.out⟩
end Go.Proofs.YtifnochpmlllgaaDoor.Fd
