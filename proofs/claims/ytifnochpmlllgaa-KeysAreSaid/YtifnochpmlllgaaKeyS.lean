/-
  PROVED HERE: the contract of keys' Parse. Conditions: as each theorem states.
-/
import Derived.Test.YtifnochpmlllgaaKeyT
namespace Go.Proofs.Ytifnochpmlllgaa.Key
open Go.RowKit
theorem kp_more {l : List UInt8} (h : pp l = .more) : kp l = (cm0, l.length, 0) := by unfold kp; rw [h]
theorem kp_bad {l r : List UInt8} {w : Bool} (h : pp l = .bad r w) : kp l = (cm0, l.length - r.length, 2) := by unfold kp; rw [h]
theorem kp_done {l r : List UInt8} {c : Cm} (h : pp l = .done c r) : kp l = (c, l.length - r.length, 1) := by unfold kp; rw [h]
theorem pp_first (s : ByteArray) (h : 0 < s.size) (hq : s[0].toNat ≠ 34) : pp (lst s) = body 0 (lst s) := by
  rw [lst_cons s h]
  unfold pp
  simp only
  rw [if_neg (fun e => hq (by rw [e]; rfl))]
theorem pp_none (s : ByteArray) (h : ¬ 0 < s.size) : pp (lst s) = body 0 (lst s) := by
  rw [lst_nil h]; rfl
theorem pp_quote (s : ByteArray) (h : 0 < s.size) (hq : s[0].toNat = 34) : pp (lst s) = (match lst (s.extract 1 s.size) with | [] => .more | g :: r => if regOk g = true then body g r else .bad r false) := by
  rw [lst_cons s h]
  unfold pp
  simp only
  rw [if_pos (UInt8.toNat_inj.1 hq)]
  cases lst (s.extract 1 s.size) <;> rfl
theorem nn_in2 (m k : Nat) (hm : m ≤ 9999) (hk : k ≤ 9999) : IntKind.i64.wrap (max (m : Int) 1 * (k : Int)) = max (m : Int) 1 * (k : Int) := by
  rw [Int.mul_comm]
  exact nn_in m k hm hk
theorem nn_pos2 (m k : Nat) (hk : 0 < k) : min (max (m : Int) 1 * (k : Int)) 9999 = ((nn m k : Nat) : Int) := by
  rw [Int.mul_comm]
  exact nn_pos m k hk
theorem regX (c : UInt8) : ∃ x : Int, bits .or .u8 (c.toNat : Int) 32 = x ∧ (regOk c = true → (97 ≤ x ∧ x ≤ 122) ∨ (x < 97 ∧ 49 ≤ c.toNat ∧ c.toNat ≤ 57)) ∧ (regOk c = false → (x < 97 ∧ c.toNat < 49) ∨ (x < 97 ∧ 57 < c.toNat) ∨ (97 ≤ x ∧ 122 < x ∧ c.toNat < 49) ∨ (97 ≤ x ∧ 122 < x ∧ 57 < c.toNat)) := by
  have : ∀ n : Fin 256, (regOk n.val.toUInt8 = true → (97 ≤ bits .or .u8 (n.val : Int) 32 ∧ bits .or .u8 (n.val : Int) 32 ≤ 122) ∨ (bits .or .u8 (n.val : Int) 32 < 97 ∧ 49 ≤ n.val ∧ n.val ≤ 57)) ∧ (regOk n.val.toUInt8 = false → (bits .or .u8 (n.val : Int) 32 < 97 ∧ n.val < 49) ∨ (bits .or .u8 (n.val : Int) 32 < 97 ∧ 57 < n.val) ∨ (97 ≤ bits .or .u8 (n.val : Int) 32 ∧ 122 < bits .or .u8 (n.val : Int) 32 ∧ n.val < 49) ∨ (97 ≤ bits .or .u8 (n.val : Int) 32 ∧ 122 < bits .or .u8 (n.val : Int) 32 ∧ 57 < n.val)) := by decide +kernel
  have h := this ⟨c.toNat, u8_lt c⟩
  simp only at h
  rw [show c.toNat.toUInt8 = c from UInt8.ofNat_toNat] at h
  exact ⟨_, rfl, h⟩
def ub (s : ByteArray) : ByteArray := if h : 0 < s.size then (if s[0].toNat = 34 then (s.extract 1 s.size).extract 1 (s.extract 1 s.size).size else s) else s
theorem ub_quote (s : ByteArray) (h : 0 < s.size) (hq : s[0].toNat = 34) : ub s = (s.extract 1 s.size).extract 1 (s.extract 1 s.size).size := by
  unfold ub
  rw [dif_pos h, if_pos hq]
theorem ub_first (s : ByteArray) (h : 0 < s.size) (hq : s[0].toNat ≠ 34) : ub s = s := by
  unfold ub
  rw [dif_pos h, if_neg hq]
theorem ub_none (s : ByteArray) (h : ¬ 0 < s.size) : ub s = s := by
  unfold ub
  rw [dif_neg h]
/-- The register, if there is one, is right. -/
def Pre (s : ByteArray) : Prop := ∀ h : 0 < s.size, s[0].toNat = 34 → ∃ h2 : 0 < (s.extract 1 s.size).size, regOk (s.extract 1 s.size)[0] = true
/-- What stands behind the first number. -/
def lb (s : ByteArray) : List UInt8 := (ct 0 (lst (ub s))).2
def C1 (s : ByteArray) : Prop := ∀ op lx, lb s = op :: lx → dyc op = false ∧ known op = false
def C2 (s : ByteArray) : Prop := ∃ op lx, lb s = op :: lx ∧ dyc op = true ∧ ∀ mv lz, (ct 0 lx).2 = mv :: lz → mv ≠ op → (mot mv || far mv) = false
def C3 (s : ByteArray) : Prop := ∃ op lx, lb s = op :: lx ∧ dyc op = false ∧ known op = true
def C4 (s : ByteArray) : Prop := ∃ op lx, lb s = op :: lx ∧ dyc op = true ∧ ∃ mv lz, (ct 0 lx).2 = mv :: lz ∧ mv ≠ op ∧ (mot mv || far mv) = true
theorem classes (s : ByteArray) : C1 s ∨ C2 s ∨ C3 s ∨ C4 s := by
  unfold C1 C2 C3 C4
  cases hl : lb s with
  | nil => exact .inl (fun op lx h => by cases h)
  | cons op lx =>
    rcases hd : dyc op with _ | _
    · rcases hk : known op with _ | _
      · exact .inl (fun op' lx' h => by injection h with h1 h2; subst h1; exact ⟨hd, hk⟩)
      · exact .inr (.inr (.inl ⟨op, lx, rfl, hd, hk⟩))
    · cases hm : (ct 0 lx).2 with
      | nil => exact .inr (.inl ⟨op, lx, rfl, hd, fun mv lz h => by rw [hm] at h; cases h⟩)
      | cons mv lz =>
        by_cases he : mv = op
        · exact .inr (.inl ⟨op, lx, rfl, hd, fun mv' lz' h hn => by rw [hm] at h; injection h with h1 h2; exact absurd (h1 ▸ he) hn⟩)
        · rcases hf : (mot mv || far mv) with _ | _
          · exact .inr (.inl ⟨op, lx, rfl, hd, fun mv' lz' h hn => by rw [hm] at h; injection h with h1 h2; subst h1; exact hf⟩)
          · exact .inr (.inr (.inr ⟨op, lx, rfl, hd, mv, lz, hm, he, hf⟩))
end Go.Proofs.Ytifnochpmlllgaa.Key
