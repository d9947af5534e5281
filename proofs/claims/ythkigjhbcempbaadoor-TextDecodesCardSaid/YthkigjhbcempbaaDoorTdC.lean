/-
  PROVED HERE: what the document's begins reckons, in plain Lean. Conditions: as each theorem states.
-/
import Derived.Test.YthkigjhbcempbaaDoorPow
import Derived.Test.YthkigjhbcempbaaDoorTdA
namespace Go.Proofs.YthkigjhbcempbaaDoor.Td
/-- What the lead byte holds. -/
def ld (n : Nat) : Nat := if n = 2 then 192 else if n = 3 then 224 else 240
def bs (n : Nat) (b : Nat → Nat) : Nat → Nat
  | 0 => b 0 - ld n
  | k + 1 => bs n b k * 64 + (b (k + 1) - 128)
def st (n k : Nat) : Nat := Pow.p2 (6 * (n - 1 - k))
def lw (n : Nat) (b : Nat → Nat) : Nat → Nat
  | 0 => max (bs n b 0 * st n 0) (if n = 2 then 128 else if n = 3 then 2048 else 65536)
  | k + 1 => max (lw n b k) (bs n b (k + 1) * st n (k + 1))
def hg (n : Nat) (b : Nat → Nat) : Nat → Nat
  | 0 => if n = 4 then min (bs n b 0 * st n 0 + st n 0 - 1) 1114111 else bs n b 0 * st n 0 + st n 0 - 1
  | k + 1 => min (hg n b k) (bs n b (k + 1) * st n (k + 1) + st n (k + 1) - 1)
def led (n c : Nat) : Prop := (n = 2 ∧ 192 ≤ c ∧ c < 224) ∨ (n = 3 ∧ 224 ≤ c ∧ c < 240) ∨ (n = 4 ∧ 240 ≤ c ∧ c < 256)
def srg (x : Nat) : Prop := 55296 ≤ x ∧ x ≤ 57343
theorem bs_bd (n : Nat) (b : Nat → Nat) (h0 : led n (b 0)) (k : Nat) (hk : k ≤ 3) (h : ∀ j, 1 ≤ j → j ≤ k → b j ≤ 191) : bs n b k ≤ 16777215 ∧ (k ≤ 2 → bs n b k ≤ 262143) := by
  have c1 := h 1 (by omega)
  have c2 := h 2 (by omega)
  have c3 := h 3 (by omega)
  have z : bs n b 0 ≤ 31 := by
    show b 0 - ld n ≤ 31
    rcases h0 with ⟨rfl, h1, h2⟩ | ⟨rfl, h1, h2⟩ | ⟨rfl, h1, h2⟩ <;> simp [ld] <;> omega
  have e1 : bs n b 1 = bs n b 0 * 64 + (b 1 - 128) := rfl
  have e2 : bs n b 2 = bs n b 1 * 64 + (b 2 - 128) := rfl
  have e3 : bs n b 3 = bs n b 2 * 64 + (b 3 - 128) := rfl
  rcases (show k = 0 ∨ k = 1 ∨ k = 2 ∨ k = 3 by omega) with rfl | rfl | rfl | rfl <;> omega
theorem bs_small (n : Nat) (b : Nat → Nat) (h0 : led n (b 0)) (k : Nat) (hk : k ≤ 2) (h : ∀ j, 1 ≤ j → j ≤ k → b j ≤ 191) : bs n b k ≤ 262143 := (bs_bd n b h0 k (by omega) h).2 hk
theorem st_step (n k : Nat) (h : k + 1 < n) : st n k = 64 * st n (k + 1) := by
  unfold st Pow.p2
  have e : 6 * (n - 1 - k) = 6 + 6 * (n - 1 - (k + 1)) := by omega
  rw [e, Nat.pow_add]
theorem st_bd (n k : Nat) (hn : n ≤ 4) : st n k ≤ 262144 := by
  unfold st Pow.p2
  exact Nat.le_trans (Nat.pow_le_pow_right (n := 2) (by omega) (show 6 * (n - 1 - k) ≤ 18 by omega)) (by simp)
theorem st_pos (n k : Nat) : 1 ≤ st n k := Nat.one_le_two_pow
def val (n : Nat) (b : Nat → Nat) (k : Nat) : Nat := bs n b k * st n k
def lb (n : Nat) : Nat := if n = 2 then 128 else if n = 3 then 2048 else 65536
def hb (n : Nat) : Nat := if n = 4 then 1114111 else 65535
theorem mul_step (B d T : Nat) (hd : d ≤ 63) : B * (64 * T) ≤ (B * 64 + d) * T ∧ (B * 64 + d) * T + T ≤ B * (64 * T) + 64 * T := by
  have e1 : (B * 64 + d) * T = B * (64 * T) + d * T := by rw [Nat.add_mul (B * 64) d T, Nat.mul_assoc B 64 T]
  have h : d * T + T ≤ 64 * T := by
    have : (d + 1) * T ≤ 64 * T := Nat.mul_le_mul_right T (by omega)
    rw [Nat.add_mul d 1 T, Nat.one_mul] at this
    exact this
  rw [e1]
  generalize B * (64 * T) = X at *
  generalize d * T = Y at *
  omega
theorem val_step (n : Nat) (b : Nat → Nat) (k : Nat) (h : k + 1 < n) (hc : 128 ≤ b (k + 1) ∧ b (k + 1) ≤ 191) : val n b k ≤ val n b (k + 1) ∧ val n b (k + 1) + st n (k + 1) ≤ val n b k + st n k := by
  have e := st_step n k h
  have m := mul_step (bs n b k) (b (k + 1) - 128) (st n (k + 1)) (by omega)
  rw [← e] at m
  exact m
set_option maxRecDepth 20000 in
theorem val0 (n : Nat) (b : Nat → Nat) (h0 : led n (b 0)) : (n = 4 ∨ val n b 0 + st n 0 ≤ 65536) ∧ val n b 0 + st n 0 ≤ 4194304 := by
  rcases h0 with ⟨rfl, h1, h2⟩ | ⟨rfl, h1, h2⟩ | ⟨rfl, h1, h2⟩
  · have e : val 2 b 0 = (b 0 - 192) * 64 := rfl
    have e' : st 2 0 = 64 := rfl
    rw [e, e']
    omega
  · have e : val 3 b 0 = (b 0 - 224) * 4096 := rfl
    have e' : st 3 0 = 4096 := rfl
    rw [e, e']
    omega
  · have e : val 4 b 0 = (b 0 - 240) * 262144 := rfl
    have e' : st 4 0 = 262144 := rfl
    rw [e, e']
    refine ⟨.inl rfl, ?_⟩
    omega
set_option maxRecDepth 20000 in
theorem val_bd (n : Nat) (b : Nat → Nat) (h0 : led n (b 0)) : ∀ k, k < n → (∀ j, 1 ≤ j → j ≤ k → 128 ≤ b j ∧ b j ≤ 191) → val n b k + st n k ≤ 4194304
  | 0, _, _ => (val0 n b h0).2
  | k + 1, hk, hc => by
    have h1 := val_bd n b h0 k (by omega) (fun j a b => hc j a (by omega))
    have h2 := val_step n b k hk (hc (k + 1) (by omega) (Nat.le_refl _))
    omega
theorem lw_is (n : Nat) (b : Nat → Nat) : ∀ k, k < n → (∀ j, 1 ≤ j → j ≤ k → 128 ≤ b j ∧ b j ≤ 191) → lw n b k = max (val n b k) (lb n)
  | 0, _, _ => rfl
  | k + 1, hk, hc => by
    have h1 := lw_is n b k (by omega) (fun j a b => hc j a (by omega))
    have h2 := val_step n b k hk (hc (k + 1) (by omega) (Nat.le_refl _))
    rw [lw, h1]
    show max (max (val n b k) (lb n)) (val n b (k + 1)) = _
    omega
theorem hg_is (n : Nat) (b : Nat → Nat) (h0 : led n (b 0)) : ∀ k, k < n → (∀ j, 1 ≤ j → j ≤ k → 128 ≤ b j ∧ b j ≤ 191) → hg n b k = min (val n b k + st n k - 1) (hb n)
  | 0, _, _ => by
    have h := (val0 n b h0).1
    unfold hg hb
    by_cases e : n = 4
    · rw [if_pos e, if_pos e]; rfl
    · rw [if_neg e, if_neg e]
      show val n b 0 + st n 0 - 1 = _
      omega
  | k + 1, hk, hc => by
    have h1 := hg_is n b h0 k (by omega) (fun j a b => hc j a (by omega))
    have h2 := val_step n b k hk (hc (k + 1) (by omega) (Nat.le_refl _))
    have h3 := st_pos n (k + 1)
    rw [hg, h1]
    show min (min (val n b k + st n k - 1) (hb n)) (val n b (k + 1) + st n (k + 1) - 1) = _
    omega
theorem hg_top (n : Nat) (b : Nat → Nat) (h0 : led n (b 0)) (k : Nat) (hk : k < n) (hc : ∀ j, 1 ≤ j → j ≤ k → 128 ≤ b j ∧ b j ≤ 191) : hg n b k ≤ 1114111 := by
  rw [hg_is n b h0 k hk hc]
  unfold hb
  split <;> omega
theorem lo_is (c : Nat) : (c = 224 ∧ lo c = 160) ∨ (c = 240 ∧ lo c = 144) ∨ (c ≠ 224 ∧ c ≠ 240 ∧ lo c = 128) := by unfold lo; (repeat' split) <;> omega
theorem hi_is (c : Nat) : (c = 237 ∧ hi c = 159) ∨ (c = 244 ∧ hi c = 143) ∨ (c ≠ 237 ∧ c ≠ 244 ∧ hi c = 191) := by unfold hi; (repeat' split) <;> omega
set_option maxRecDepth 20000 in
theorem most_is (n c : Nat) (h : led n c) : (most c = n ∧ (n = 2 → 194 ≤ c) ∧ (n = 4 → c ≤ 244)) ∨ (most c = 1 ∧ ((n = 2 ∧ c < 194) ∨ (n = 4 ∧ 244 < c))) := by unfold led at h; unfold most; (repeat' split) <;> omega
def mayP (m l h k b1 b2 b3 : Nat) : Prop := 1 < m ∧ k ≤ m ∧ (1 < k → l ≤ b1 ∧ b1 ≤ h) ∧ (2 < k → 128 ≤ b2 ∧ b2 ≤ 191) ∧ (3 < k → 128 ≤ b3 ∧ b3 ≤ 191)
def last (K b0 b1 b2 b3 : Nat) : Int := if K = 2 then ((b0 - 192) * 64 + (b1 - 128) : Int) else if K = 3 then ((b0 - 224) * 4096 + (b1 - 128) * 64 + (b2 - 128) : Int) else ((b0 - 240) * 262144 + (b1 - 128) * 4096 + (b2 - 128) * 64 + (b3 - 128) : Int)
theorem cl_2 (c : Nat) (h1 : 192 ≤ c) (h2 : c < 224) : ((most c = 2 ∧ 194 ≤ c) ∨ (most c = 1 ∧ c < 194)) ∧ (lo c = 128) ∧ (hi c = 191) := by
  unfold most lo hi
  refine ⟨?_, ?_, ?_⟩ <;> ((repeat' split) <;> omega)
set_option maxRecDepth 20000 in
theorem yes_21 (b0 b1 b2 b3 x m l h V : Nat) (hV : V = (b0 - 192) * 64) (h1 : 192 ≤ b0) (h2 : b0 < 224) (hm : (m = 2 ∧ 194 ≤ b0) ∨ (m = 1 ∧ b0 < 194))
    (hl : l = 128) (hh : h = 191) (hx : V ≤ x) (hx1 : 128 ≤ x) (hx2 : x + 1 ≤ V + 64) (hx3 : x ≤ 65535) (hs : x < 55296 ∨ 57343 < x) : mayP m l h 1 b1 b2 b3 ∧ (1 = 2 → (x : Int) = last 1 b0 b1 b2 b3) ∧ m = 2 := by
  have e1 : m = 2 := by omega
  refine ⟨⟨by rw [e1]; decide, by rw [e1]; decide, fun h => absurd h (by decide), fun h => absurd h (by decide), fun h => absurd h (by decide)⟩, fun h => absurd h (by decide), e1⟩
set_option maxRecDepth 20000 in
theorem no_21 (b0 b1 b2 b3 x m l h V : Nat) (hV : V = (b0 - 192) * 64) (h1 : 192 ≤ b0) (h2 : b0 < 224) (hm : (m = 2 ∧ 194 ≤ b0) ∨ (m = 1 ∧ b0 < 194))
    (hl : l = 128) (hh : h = 191) (hx : V + 64 < x + 1 ∨ 65535 < x) (hs : x = max V 128 ∨ (55296 ≤ V ∧ x ≤ 57344)) : ¬ mayP m l h 1 b1 b2 b3 := by
  rintro ⟨y0, -, y1, -, -⟩
  clear y1
  omega
set_option maxRecDepth 20000 in
theorem yes_22 (b0 b1 b2 b3 x m l h V : Nat) (hV : V = (b0 - 192) * 64 + (b1 - 128)) (h1 : 192 ≤ b0) (h2 : b0 < 224) (hm : (m = 2 ∧ 194 ≤ b0) ∨ (m = 1 ∧ b0 < 194))
    (hl : l = 128) (hh : h = 191) (c1 : 128 ≤ b1 ∧ b1 ≤ 191) (hx : V ≤ x) (hx1 : 128 ≤ x) (hx2 : x + 1 ≤ V + 1) (hx3 : x ≤ 65535) (hs : x < 55296 ∨ 57343 < x) : mayP m l h 2 b1 b2 b3 ∧ (2 = 2 → (x : Int) = last 2 b0 b1 b2 b3) ∧ m = 2 := by
  have e1 : m = 2 := by omega
  have e2 : l ≤ b1 ∧ b1 ≤ h := by omega
  have e3 : (x : Int) = ((b0 - 192) * 64 + (b1 - 128) : Int) := by omega
  refine ⟨⟨by rw [e1]; decide, by rw [e1]; decide, fun _ => e2, fun h => absurd h (by decide), fun h => absurd h (by decide)⟩, fun _ => e3, e1⟩
set_option maxRecDepth 20000 in
theorem no_22 (b0 b1 b2 b3 x m l h V : Nat) (hV : V = (b0 - 192) * 64 + (b1 - 128)) (h1 : 192 ≤ b0) (h2 : b0 < 224) (hm : (m = 2 ∧ 194 ≤ b0) ∨ (m = 1 ∧ b0 < 194))
    (hl : l = 128) (hh : h = 191) (c1 : 128 ≤ b1 ∧ b1 ≤ 191) (hx : V + 1 < x + 1 ∨ 65535 < x) (hs : x = max V 128 ∨ (55296 ≤ V ∧ x ≤ 57344)) : ¬ mayP m l h 2 b1 b2 b3 := by
  rintro ⟨y0, -, y1, -, -⟩
  replace y1 := y1 (by decide)
  omega
theorem cl_3 (c : Nat) (h1 : 224 ≤ c) (h2 : c < 240) : (most c = 3) ∧ ((c = 224 ∧ lo c = 160) ∨ (c ≠ 224 ∧ lo c = 128)) ∧ ((c = 237 ∧ hi c = 159) ∨ (c ≠ 237 ∧ hi c = 191)) := by
  unfold most lo hi
  refine ⟨?_, ?_, ?_⟩ <;> ((repeat' split) <;> omega)
set_option maxRecDepth 20000 in
theorem yes_31 (b0 b1 b2 b3 x m l h V : Nat) (hV : V = (b0 - 224) * 4096) (h1 : 224 ≤ b0) (h2 : b0 < 240) (hm : m = 3)
    (hl : (b0 = 224 ∧ l = 160) ∨ (b0 ≠ 224 ∧ l = 128)) (hh : (b0 = 237 ∧ h = 159) ∨ (b0 ≠ 237 ∧ h = 191)) (hx : V ≤ x) (hx1 : 2048 ≤ x) (hx2 : x + 1 ≤ V + 4096) (hx3 : x ≤ 65535) (hs : x < 55296 ∨ 57343 < x) : mayP m l h 1 b1 b2 b3 ∧ (1 = 3 → (x : Int) = last 1 b0 b1 b2 b3) ∧ m = 3 := by
  have e1 : m = 3 := by omega
  refine ⟨⟨by rw [e1]; decide, by rw [e1]; decide, fun h => absurd h (by decide), fun h => absurd h (by decide), fun h => absurd h (by decide)⟩, fun h => absurd h (by decide), e1⟩
set_option maxRecDepth 20000 in
theorem no_31 (b0 b1 b2 b3 x m l h V : Nat) (hV : V = (b0 - 224) * 4096) (h1 : 224 ≤ b0) (h2 : b0 < 240) (hm : m = 3)
    (hl : (b0 = 224 ∧ l = 160) ∨ (b0 ≠ 224 ∧ l = 128)) (hh : (b0 = 237 ∧ h = 159) ∨ (b0 ≠ 237 ∧ h = 191)) (hx : V + 4096 < x + 1 ∨ 65535 < x) (hs : x = max V 2048 ∨ (55296 ≤ V ∧ x ≤ 57344)) : ¬ mayP m l h 1 b1 b2 b3 := by
  rintro ⟨y0, -, y1, -, -⟩
  clear y1
  omega
set_option maxRecDepth 20000 in
theorem yes_32 (b0 b1 b2 b3 x m l h V : Nat) (hV : V = (b0 - 224) * 4096 + (b1 - 128) * 64) (h1 : 224 ≤ b0) (h2 : b0 < 240) (hm : m = 3)
    (hl : (b0 = 224 ∧ l = 160) ∨ (b0 ≠ 224 ∧ l = 128)) (hh : (b0 = 237 ∧ h = 159) ∨ (b0 ≠ 237 ∧ h = 191)) (c1 : 128 ≤ b1 ∧ b1 ≤ 191) (hx : V ≤ x) (hx1 : 2048 ≤ x) (hx2 : x + 1 ≤ V + 64) (hx3 : x ≤ 65535) (hs : x < 55296 ∨ 57343 < x) : mayP m l h 2 b1 b2 b3 ∧ (2 = 3 → (x : Int) = last 2 b0 b1 b2 b3) ∧ m = 3 := by
  have e1 : m = 3 := by omega
  have e2 : l ≤ b1 ∧ b1 ≤ h := by omega
  refine ⟨⟨by rw [e1]; decide, by rw [e1]; decide, fun _ => e2, fun h => absurd h (by decide), fun h => absurd h (by decide)⟩, fun h => absurd h (by decide), e1⟩
set_option maxRecDepth 20000 in
theorem no_32 (b0 b1 b2 b3 x m l h V : Nat) (hV : V = (b0 - 224) * 4096 + (b1 - 128) * 64) (h1 : 224 ≤ b0) (h2 : b0 < 240) (hm : m = 3)
    (hl : (b0 = 224 ∧ l = 160) ∨ (b0 ≠ 224 ∧ l = 128)) (hh : (b0 = 237 ∧ h = 159) ∨ (b0 ≠ 237 ∧ h = 191)) (c1 : 128 ≤ b1 ∧ b1 ≤ 191) (hx : V + 64 < x + 1 ∨ 65535 < x) (hs : x = max V 2048 ∨ (55296 ≤ V ∧ x ≤ 57344)) : ¬ mayP m l h 2 b1 b2 b3 := by
  rintro ⟨y0, -, y1, -, -⟩
  replace y1 := y1 (by decide)
  omega
set_option maxRecDepth 20000 in
theorem yes_33 (b0 b1 b2 b3 x m l h V : Nat) (hV : V = (b0 - 224) * 4096 + (b1 - 128) * 64 + (b2 - 128)) (h1 : 224 ≤ b0) (h2 : b0 < 240) (hm : m = 3)
    (hl : (b0 = 224 ∧ l = 160) ∨ (b0 ≠ 224 ∧ l = 128)) (hh : (b0 = 237 ∧ h = 159) ∨ (b0 ≠ 237 ∧ h = 191)) (c1 : 128 ≤ b1 ∧ b1 ≤ 191) (c2 : 128 ≤ b2 ∧ b2 ≤ 191) (hx : V ≤ x) (hx1 : 2048 ≤ x) (hx2 : x + 1 ≤ V + 1) (hx3 : x ≤ 65535) (hs : x < 55296 ∨ 57343 < x) : mayP m l h 3 b1 b2 b3 ∧ (3 = 3 → (x : Int) = last 3 b0 b1 b2 b3) ∧ m = 3 := by
  have e1 : m = 3 := by omega
  have e2 : l ≤ b1 ∧ b1 ≤ h := by omega
  have e3 : (x : Int) = ((b0 - 224) * 4096 + (b1 - 128) * 64 + (b2 - 128) : Int) := by omega
  refine ⟨⟨by rw [e1]; decide, by rw [e1]; decide, fun _ => e2, fun _ => c2, fun h => absurd h (by decide)⟩, fun _ => e3, e1⟩
set_option maxRecDepth 20000 in
theorem no_33 (b0 b1 b2 b3 x m l h V : Nat) (hV : V = (b0 - 224) * 4096 + (b1 - 128) * 64 + (b2 - 128)) (h1 : 224 ≤ b0) (h2 : b0 < 240) (hm : m = 3)
    (hl : (b0 = 224 ∧ l = 160) ∨ (b0 ≠ 224 ∧ l = 128)) (hh : (b0 = 237 ∧ h = 159) ∨ (b0 ≠ 237 ∧ h = 191)) (c1 : 128 ≤ b1 ∧ b1 ≤ 191) (c2 : 128 ≤ b2 ∧ b2 ≤ 191) (hx : V + 1 < x + 1 ∨ 65535 < x) (hs : x = max V 2048 ∨ (55296 ≤ V ∧ x ≤ 57344)) : ¬ mayP m l h 3 b1 b2 b3 := by
  rintro ⟨y0, -, y1, -, -⟩
  replace y1 := y1 (by decide)
  omega
theorem cl_4 (c : Nat) (h1 : 240 ≤ c) (h2 : c < 256) : ((most c = 4 ∧ c ≤ 244) ∨ (most c = 1 ∧ 244 < c)) ∧ ((c = 240 ∧ lo c = 144) ∨ (c ≠ 240 ∧ lo c = 128)) ∧ ((c = 244 ∧ hi c = 143) ∨ (c ≠ 244 ∧ hi c = 191)) := by
  unfold most lo hi
  refine ⟨?_, ?_, ?_⟩ <;> ((repeat' split) <;> omega)
set_option maxRecDepth 20000 in
theorem yes_41 (b0 b1 b2 b3 x m l h V : Nat) (hV : V = (b0 - 240) * 262144) (h1 : 240 ≤ b0) (h2 : b0 < 256) (hm : (m = 4 ∧ b0 ≤ 244) ∨ (m = 1 ∧ 244 < b0))
    (hl : (b0 = 240 ∧ l = 144) ∨ (b0 ≠ 240 ∧ l = 128)) (hh : (b0 = 244 ∧ h = 143) ∨ (b0 ≠ 244 ∧ h = 191)) (hx : V ≤ x) (hx1 : 65536 ≤ x) (hx2 : x + 1 ≤ V + 262144) (hx3 : x ≤ 1114111) (hs : x < 55296 ∨ 57343 < x) : mayP m l h 1 b1 b2 b3 ∧ (1 = 4 → (x : Int) = last 1 b0 b1 b2 b3) ∧ m = 4 := by
  have e1 : m = 4 := by omega
  refine ⟨⟨by rw [e1]; decide, by rw [e1]; decide, fun h => absurd h (by decide), fun h => absurd h (by decide), fun h => absurd h (by decide)⟩, fun h => absurd h (by decide), e1⟩
set_option maxRecDepth 20000 in
theorem no_41 (b0 b1 b2 b3 x m l h V : Nat) (hV : V = (b0 - 240) * 262144) (h1 : 240 ≤ b0) (h2 : b0 < 256) (hm : (m = 4 ∧ b0 ≤ 244) ∨ (m = 1 ∧ 244 < b0))
    (hl : (b0 = 240 ∧ l = 144) ∨ (b0 ≠ 240 ∧ l = 128)) (hh : (b0 = 244 ∧ h = 143) ∨ (b0 ≠ 244 ∧ h = 191)) (hx : V + 262144 < x + 1 ∨ 1114111 < x) (hs : x = max V 65536 ∨ (55296 ≤ V ∧ x ≤ 57344)) : ¬ mayP m l h 1 b1 b2 b3 := by
  rintro ⟨y0, -, y1, -, -⟩
  clear y1
  omega
set_option maxRecDepth 20000 in
theorem yes_42 (b0 b1 b2 b3 x m l h V : Nat) (hV : V = (b0 - 240) * 262144 + (b1 - 128) * 4096) (h1 : 240 ≤ b0) (h2 : b0 < 256) (hm : (m = 4 ∧ b0 ≤ 244) ∨ (m = 1 ∧ 244 < b0))
    (hl : (b0 = 240 ∧ l = 144) ∨ (b0 ≠ 240 ∧ l = 128)) (hh : (b0 = 244 ∧ h = 143) ∨ (b0 ≠ 244 ∧ h = 191)) (c1 : 128 ≤ b1 ∧ b1 ≤ 191) (hx : V ≤ x) (hx1 : 65536 ≤ x) (hx2 : x + 1 ≤ V + 4096) (hx3 : x ≤ 1114111) (hs : x < 55296 ∨ 57343 < x) : mayP m l h 2 b1 b2 b3 ∧ (2 = 4 → (x : Int) = last 2 b0 b1 b2 b3) ∧ m = 4 := by
  have e1 : m = 4 := by omega
  have e2 : l ≤ b1 ∧ b1 ≤ h := by omega
  refine ⟨⟨by rw [e1]; decide, by rw [e1]; decide, fun _ => e2, fun h => absurd h (by decide), fun h => absurd h (by decide)⟩, fun h => absurd h (by decide), e1⟩
set_option maxRecDepth 20000 in
theorem no_42 (b0 b1 b2 b3 x m l h V : Nat) (hV : V = (b0 - 240) * 262144 + (b1 - 128) * 4096) (h1 : 240 ≤ b0) (h2 : b0 < 256) (hm : (m = 4 ∧ b0 ≤ 244) ∨ (m = 1 ∧ 244 < b0))
    (hl : (b0 = 240 ∧ l = 144) ∨ (b0 ≠ 240 ∧ l = 128)) (hh : (b0 = 244 ∧ h = 143) ∨ (b0 ≠ 244 ∧ h = 191)) (c1 : 128 ≤ b1 ∧ b1 ≤ 191) (hx : V + 4096 < x + 1 ∨ 1114111 < x) (hs : x = max V 65536 ∨ (55296 ≤ V ∧ x ≤ 57344)) : ¬ mayP m l h 2 b1 b2 b3 := by
  rintro ⟨y0, -, y1, -, -⟩
  replace y1 := y1 (by decide)
  omega
set_option maxRecDepth 20000 in
theorem yes_43 (b0 b1 b2 b3 x m l h V : Nat) (hV : V = (b0 - 240) * 262144 + (b1 - 128) * 4096 + (b2 - 128) * 64) (h1 : 240 ≤ b0) (h2 : b0 < 256) (hm : (m = 4 ∧ b0 ≤ 244) ∨ (m = 1 ∧ 244 < b0))
    (hl : (b0 = 240 ∧ l = 144) ∨ (b0 ≠ 240 ∧ l = 128)) (hh : (b0 = 244 ∧ h = 143) ∨ (b0 ≠ 244 ∧ h = 191)) (c1 : 128 ≤ b1 ∧ b1 ≤ 191) (c2 : 128 ≤ b2 ∧ b2 ≤ 191) (hx : V ≤ x) (hx1 : 65536 ≤ x) (hx2 : x + 1 ≤ V + 64) (hx3 : x ≤ 1114111) (hs : x < 55296 ∨ 57343 < x) : mayP m l h 3 b1 b2 b3 ∧ (3 = 4 → (x : Int) = last 3 b0 b1 b2 b3) ∧ m = 4 := by
  have e1 : m = 4 := by omega
  have e2 : l ≤ b1 ∧ b1 ≤ h := by omega
  refine ⟨⟨by rw [e1]; decide, by rw [e1]; decide, fun _ => e2, fun _ => c2, fun h => absurd h (by decide)⟩, fun h => absurd h (by decide), e1⟩
set_option maxRecDepth 20000 in
theorem no_43 (b0 b1 b2 b3 x m l h V : Nat) (hV : V = (b0 - 240) * 262144 + (b1 - 128) * 4096 + (b2 - 128) * 64) (h1 : 240 ≤ b0) (h2 : b0 < 256) (hm : (m = 4 ∧ b0 ≤ 244) ∨ (m = 1 ∧ 244 < b0))
    (hl : (b0 = 240 ∧ l = 144) ∨ (b0 ≠ 240 ∧ l = 128)) (hh : (b0 = 244 ∧ h = 143) ∨ (b0 ≠ 244 ∧ h = 191)) (c1 : 128 ≤ b1 ∧ b1 ≤ 191) (c2 : 128 ≤ b2 ∧ b2 ≤ 191) (hx : V + 64 < x + 1 ∨ 1114111 < x) (hs : x = max V 65536 ∨ (55296 ≤ V ∧ x ≤ 57344)) : ¬ mayP m l h 3 b1 b2 b3 := by
  rintro ⟨y0, -, y1, -, -⟩
  replace y1 := y1 (by decide)
  omega
set_option maxRecDepth 20000 in
theorem yes_44 (b0 b1 b2 b3 x m l h V : Nat) (hV : V = (b0 - 240) * 262144 + (b1 - 128) * 4096 + (b2 - 128) * 64 + (b3 - 128)) (h1 : 240 ≤ b0) (h2 : b0 < 256) (hm : (m = 4 ∧ b0 ≤ 244) ∨ (m = 1 ∧ 244 < b0))
    (hl : (b0 = 240 ∧ l = 144) ∨ (b0 ≠ 240 ∧ l = 128)) (hh : (b0 = 244 ∧ h = 143) ∨ (b0 ≠ 244 ∧ h = 191)) (c1 : 128 ≤ b1 ∧ b1 ≤ 191) (c2 : 128 ≤ b2 ∧ b2 ≤ 191) (c3 : 128 ≤ b3 ∧ b3 ≤ 191) (hx : V ≤ x) (hx1 : 65536 ≤ x) (hx2 : x + 1 ≤ V + 1) (hx3 : x ≤ 1114111) (hs : x < 55296 ∨ 57343 < x) : mayP m l h 4 b1 b2 b3 ∧ (4 = 4 → (x : Int) = last 4 b0 b1 b2 b3) ∧ m = 4 := by
  have e1 : m = 4 := by omega
  have e2 : l ≤ b1 ∧ b1 ≤ h := by omega
  have e3 : (x : Int) = ((b0 - 240) * 262144 + (b1 - 128) * 4096 + (b2 - 128) * 64 + (b3 - 128) : Int) := by omega
  refine ⟨⟨by rw [e1]; decide, by rw [e1]; decide, fun _ => e2, fun _ => c2, fun _ => c3⟩, fun _ => e3, e1⟩
set_option maxRecDepth 20000 in
theorem no_44 (b0 b1 b2 b3 x m l h V : Nat) (hV : V = (b0 - 240) * 262144 + (b1 - 128) * 4096 + (b2 - 128) * 64 + (b3 - 128)) (h1 : 240 ≤ b0) (h2 : b0 < 256) (hm : (m = 4 ∧ b0 ≤ 244) ∨ (m = 1 ∧ 244 < b0))
    (hl : (b0 = 240 ∧ l = 144) ∨ (b0 ≠ 240 ∧ l = 128)) (hh : (b0 = 244 ∧ h = 143) ∨ (b0 ≠ 244 ∧ h = 191)) (c1 : 128 ≤ b1 ∧ b1 ≤ 191) (c2 : 128 ≤ b2 ∧ b2 ≤ 191) (c3 : 128 ≤ b3 ∧ b3 ≤ 191) (hx : V + 1 < x + 1 ∨ 1114111 < x) (hs : x = max V 65536 ∨ (55296 ≤ V ∧ x ≤ 57344)) : ¬ mayP m l h 4 b1 b2 b3 := by
  rintro ⟨y0, -, y1, -, -⟩
  replace y1 := y1 (by decide)
  omega
theorem val_21 (b : Nat → Nat) : val 2 b 0 = (b 0 - 192) * 64 := by
  show (b 0 - 192) * 64 = _
  omega
theorem val_22 (b : Nat → Nat) : val 2 b 1 = (b 0 - 192) * 64 + (b 1 - 128) := by
  show ((b 0 - 192) * 64 + (b 1 - 128)) * 1 = _
  omega
theorem val_31 (b : Nat → Nat) : val 3 b 0 = (b 0 - 224) * 4096 := by
  show (b 0 - 224) * 4096 = _
  omega
theorem val_32 (b : Nat → Nat) : val 3 b 1 = (b 0 - 224) * 4096 + (b 1 - 128) * 64 := by
  show ((b 0 - 224) * 64 + (b 1 - 128)) * 64 = _
  omega
theorem val_33 (b : Nat → Nat) : val 3 b 2 = (b 0 - 224) * 4096 + (b 1 - 128) * 64 + (b 2 - 128) := by
  show (((b 0 - 224) * 64 + (b 1 - 128)) * 64 + (b 2 - 128)) * 1 = _
  omega
theorem val_41 (b : Nat → Nat) : val 4 b 0 = (b 0 - 240) * 262144 := by
  show (b 0 - 240) * 262144 = _
  omega
theorem val_42 (b : Nat → Nat) : val 4 b 1 = (b 0 - 240) * 262144 + (b 1 - 128) * 4096 := by
  show ((b 0 - 240) * 64 + (b 1 - 128)) * 4096 = _
  omega
theorem val_43 (b : Nat → Nat) : val 4 b 2 = (b 0 - 240) * 262144 + (b 1 - 128) * 4096 + (b 2 - 128) * 64 := by
  show (((b 0 - 240) * 64 + (b 1 - 128)) * 64 + (b 2 - 128)) * 64 = _
  omega
theorem val_44 (b : Nat → Nat) : val 4 b 3 = (b 0 - 240) * 262144 + (b 1 - 128) * 4096 + (b 2 - 128) * 64 + (b 3 - 128) := by
  show ((((b 0 - 240) * 64 + (b 1 - 128)) * 64 + (b 2 - 128)) * 64 + (b 3 - 128)) * 1 = _
  omega
theorem mid_yes (n K x : Nat) (b : Nat → Nat) (h0 : led n (b 0)) (hK : 1 ≤ K) (hKn : K ≤ n) (c1 : 1 ≤ K - 1 → 128 ≤ b 1 ∧ b 1 ≤ 191) (c2 : 2 ≤ K - 1 → 128 ≤ b 2 ∧ b 2 ≤ 191) (c3 : 3 ≤ K - 1 → 128 ≤ b 3 ∧ b 3 ≤ 191)
    (hx : val n b (K - 1) ≤ x) (hx1 : lb n ≤ x) (hx2 : x + 1 ≤ val n b (K - 1) + st n (K - 1)) (hx3 : x ≤ hb n) (hs : x < 55296 ∨ 57343 < x) : mayP (most (b 0)) (lo (b 0)) (hi (b 0)) K (b 1) (b 2) (b 3) ∧ (K = n → (x : Int) = last K (b 0) (b 1) (b 2) (b 3)) ∧ most (b 0) = n := by
  rcases h0 with ⟨rfl, h1, h2⟩ | ⟨rfl, h1, h2⟩ | ⟨rfl, h1, h2⟩
  · obtain ⟨hm, hl, hh⟩ := cl_2 (b 0) h1 h2
    rcases (show K = 1 ∨ K = 2 by omega) with rfl | rfl
    · exact yes_21 (b 0) (b 1) (b 2) (b 3) x _ _ _ (val 2 b 0) (val_21 b) h1 h2 hm hl hh hx hx1 hx2 hx3 hs
    · exact yes_22 (b 0) (b 1) (b 2) (b 3) x _ _ _ (val 2 b 1) (val_22 b) h1 h2 hm hl hh (c1 (by decide)) hx hx1 hx2 hx3 hs
  · obtain ⟨hm, hl, hh⟩ := cl_3 (b 0) h1 h2
    rcases (show K = 1 ∨ K = 2 ∨ K = 3 by omega) with rfl | rfl | rfl
    · exact yes_31 (b 0) (b 1) (b 2) (b 3) x _ _ _ (val 3 b 0) (val_31 b) h1 h2 hm hl hh hx hx1 hx2 hx3 hs
    · exact yes_32 (b 0) (b 1) (b 2) (b 3) x _ _ _ (val 3 b 1) (val_32 b) h1 h2 hm hl hh (c1 (by decide)) hx hx1 hx2 hx3 hs
    · exact yes_33 (b 0) (b 1) (b 2) (b 3) x _ _ _ (val 3 b 2) (val_33 b) h1 h2 hm hl hh (c1 (by decide)) (c2 (by decide)) hx hx1 hx2 hx3 hs
  · obtain ⟨hm, hl, hh⟩ := cl_4 (b 0) h1 h2
    rcases (show K = 1 ∨ K = 2 ∨ K = 3 ∨ K = 4 by omega) with rfl | rfl | rfl | rfl
    · exact yes_41 (b 0) (b 1) (b 2) (b 3) x _ _ _ (val 4 b 0) (val_41 b) h1 h2 hm hl hh hx hx1 hx2 hx3 hs
    · exact yes_42 (b 0) (b 1) (b 2) (b 3) x _ _ _ (val 4 b 1) (val_42 b) h1 h2 hm hl hh (c1 (by decide)) hx hx1 hx2 hx3 hs
    · exact yes_43 (b 0) (b 1) (b 2) (b 3) x _ _ _ (val 4 b 2) (val_43 b) h1 h2 hm hl hh (c1 (by decide)) (c2 (by decide)) hx hx1 hx2 hx3 hs
    · exact yes_44 (b 0) (b 1) (b 2) (b 3) x _ _ _ (val 4 b 3) (val_44 b) h1 h2 hm hl hh (c1 (by decide)) (c2 (by decide)) (c3 (by decide)) hx hx1 hx2 hx3 hs
theorem mid_no (n K x : Nat) (b : Nat → Nat) (h0 : led n (b 0)) (hK : 1 ≤ K) (hKn : K ≤ n) (c1 : 1 ≤ K - 1 → 128 ≤ b 1 ∧ b 1 ≤ 191) (c2 : 2 ≤ K - 1 → 128 ≤ b 2 ∧ b 2 ≤ 191) (c3 : 3 ≤ K - 1 → 128 ≤ b 3 ∧ b 3 ≤ 191)
    (hx : val n b (K - 1) + st n (K - 1) < x + 1 ∨ hb n < x) (hs : x = max (val n b (K - 1)) (lb n) ∨ (55296 ≤ val n b (K - 1) ∧ x ≤ 57344)) : ¬ mayP (most (b 0)) (lo (b 0)) (hi (b 0)) K (b 1) (b 2) (b 3) := by
  rcases h0 with ⟨rfl, h1, h2⟩ | ⟨rfl, h1, h2⟩ | ⟨rfl, h1, h2⟩
  · obtain ⟨hm, hl, hh⟩ := cl_2 (b 0) h1 h2
    rcases (show K = 1 ∨ K = 2 by omega) with rfl | rfl
    · exact no_21 (b 0) (b 1) (b 2) (b 3) x _ _ _ (val 2 b 0) (val_21 b) h1 h2 hm hl hh hx hs
    · exact no_22 (b 0) (b 1) (b 2) (b 3) x _ _ _ (val 2 b 1) (val_22 b) h1 h2 hm hl hh (c1 (by decide)) hx hs
  · obtain ⟨hm, hl, hh⟩ := cl_3 (b 0) h1 h2
    rcases (show K = 1 ∨ K = 2 ∨ K = 3 by omega) with rfl | rfl | rfl
    · exact no_31 (b 0) (b 1) (b 2) (b 3) x _ _ _ (val 3 b 0) (val_31 b) h1 h2 hm hl hh hx hs
    · exact no_32 (b 0) (b 1) (b 2) (b 3) x _ _ _ (val 3 b 1) (val_32 b) h1 h2 hm hl hh (c1 (by decide)) hx hs
    · exact no_33 (b 0) (b 1) (b 2) (b 3) x _ _ _ (val 3 b 2) (val_33 b) h1 h2 hm hl hh (c1 (by decide)) (c2 (by decide)) hx hs
  · obtain ⟨hm, hl, hh⟩ := cl_4 (b 0) h1 h2
    rcases (show K = 1 ∨ K = 2 ∨ K = 3 ∨ K = 4 by omega) with rfl | rfl | rfl | rfl
    · exact no_41 (b 0) (b 1) (b 2) (b 3) x _ _ _ (val 4 b 0) (val_41 b) h1 h2 hm hl hh hx hs
    · exact no_42 (b 0) (b 1) (b 2) (b 3) x _ _ _ (val 4 b 1) (val_42 b) h1 h2 hm hl hh (c1 (by decide)) hx hs
    · exact no_43 (b 0) (b 1) (b 2) (b 3) x _ _ _ (val 4 b 2) (val_43 b) h1 h2 hm hl hh (c1 (by decide)) (c2 (by decide)) hx hs
    · exact no_44 (b 0) (b 1) (b 2) (b 3) x _ _ _ (val 4 b 3) (val_44 b) h1 h2 hm hl hh (c1 (by decide)) (c2 (by decide)) (c3 (by decide)) hx hs
theorem fin_yes (n K x : Nat) (b : Nat → Nat) (h0 : led n (b 0)) (hK : 1 ≤ K) (hKn : K ≤ n) (hc : ∀ j, 1 ≤ j → j ≤ K - 1 → 128 ≤ b j ∧ b j ≤ 191) (hx : lw n b (K - 1) ≤ x) (hx2 : x ≤ hg n b (K - 1)) (hs : x < 55296 ∨ 57343 < x) :
    may K (b 0) (b 1) (b 2) (b 3) = true ∧ one K (b 0) (b 1) (b 2) (b 3) = if K = n then (x : Int) else -1 := by
  have hb' : ¬ b 0 < 128 := by unfold led at h0; omega
  have hp := st_pos n (K - 1)
  rw [lw_is n b _ (by omega) hc] at hx
  rw [hg_is n b h0 _ (by omega) hc] at hx2
  obtain ⟨m1, m2, m3⟩ := mid_yes n K x b h0 hK hKn (hc 1 (by omega)) (hc 2 (by omega)) (hc 3 (by omega)) (by omega) (by omega) (by omega) (by omega) hs
  have m1' : may K (b 0) (b 1) (b 2) (b 3) = true := by rw [may_is _ _ _ _ _ hb']; exact decide_eq_true m1
  refine ⟨m1', ?_⟩
  unfold one
  rw [if_neg hb']
  by_cases e : K = n
  · rw [if_pos ⟨m1', by omega⟩, if_pos e, m2 e]; rfl
  · rw [if_neg (by omega), if_neg e]
theorem fin_no (n K x : Nat) (b : Nat → Nat) (h0 : led n (b 0)) (hK : 1 ≤ K) (hKn : K ≤ n) (hc : ∀ j, 1 ≤ j → j ≤ K - 1 → 128 ≤ b j ∧ b j ≤ 191) (hx2 : hg n b (K - 1) < x) (hs : x = lw n b (K - 1) ∨ (55296 ≤ lw n b (K - 1) ∧ lw n b (K - 1) ≤ x ∧ x ≤ 57344)) :
    may K (b 0) (b 1) (b 2) (b 3) = false ∧ one K (b 0) (b 1) (b 2) (b 3) = -1 := by
  have hb' : ¬ b 0 < 128 := by unfold led at h0; omega
  have hp := st_pos n (K - 1)
  have hlb : lb n ≤ 1000000 := by unfold lb; (repeat' split) <;> omega
  have hlb2 : lb n < 55296 ∨ 57344 < lb n := by unfold lb; (repeat' split) <;> omega
  rw [lw_is n b _ (by omega) hc] at hs
  rw [hg_is n b h0 _ (by omega) hc] at hx2
  have main := mid_no n K x b h0 hK hKn (hc 1 (by omega)) (hc 2 (by omega)) (hc 3 (by omega)) (by omega) (by omega)
  have m1' : may K (b 0) (b 1) (b 2) (b 3) = false := by rw [may_is _ _ _ _ _ hb']; exact decide_eq_false main
  refine ⟨m1', ?_⟩
  unfold one
  rw [if_neg hb', if_neg (by rw [m1']; simp)]
/-- A byte that goes on none, or one too many. -/
theorem fin_cut (n K k : Nat) (b : Nat → Nat) (h0 : led n (b 0)) (hK4 : K ≤ 4) (hk : 1 ≤ k ∧ k < K) (h : ¬ (128 ≤ b k ∧ b k ≤ 191) ∨ n ≤ k) :
    may K (b 0) (b 1) (b 2) (b 3) = false ∧ one K (b 0) (b 1) (b 2) (b 3) = -1 := by
  have hb' : ¬ b 0 < 128 := by unfold led at h0; omega
  have main : may K (b 0) (b 1) (b 2) (b 3) = false := by
    rw [may_is _ _ _ _ _ hb', decide_eq_false_iff_not]
    unfold led at h0
    unfold most lo hi
    rcases (show k = 1 ∨ k = 2 ∨ k = 3 by omega) with rfl | rfl | rfl
    all_goals (repeat' split) <;> omega
  refine ⟨main, ?_⟩
  unfold one
  rw [if_neg hb', if_neg (by rw [main]; simp)]
theorem fin_none (K : Nat) (b0 b1 b2 b3 : Nat) (hb : 128 ≤ b0 ∧ b0 < 192) : may K b0 b1 b2 b3 = false ∧ one K b0 b1 b2 b3 = -1 := by
  have hb' : ¬ b0 < 128 := by omega
  have main : may K b0 b1 b2 b3 = false := by
    rw [may_is _ _ _ _ _ hb', decide_eq_false_iff_not]
    unfold most
    (repeat' split) <;> omega
  refine ⟨main, ?_⟩
  unfold one
  rw [if_neg hb', if_neg (by rw [main]; simp)]
theorem lw0_2 (b : Nat → Nat) (h : 192 ≤ b 0) : ((lw 2 b 0 : Nat) : Int) = max ((((b 0 : Nat) : Int) - 192) * 64) 128 := by
  have e : lw 2 b 0 = max (val 2 b 0) 128 := rfl
  rw [e, val_21]; omega
theorem lw0_3 (b : Nat → Nat) (h : 224 ≤ b 0) : ((lw 3 b 0 : Nat) : Int) = max ((((b 0 : Nat) : Int) - 224) * 4096) 2048 := by
  have e : lw 3 b 0 = max (val 3 b 0) 2048 := rfl
  rw [e, val_31]; omega
theorem lw0_4 (b : Nat → Nat) (h : 240 ≤ b 0) : ((lw 4 b 0 : Nat) : Int) = max ((((b 0 : Nat) : Int) - 240) * 262144) 65536 := by
  have e : lw 4 b 0 = max (val 4 b 0) 65536 := rfl
  rw [e, val_41]; omega
theorem hg0_2 (b : Nat → Nat) (h : 192 ≤ b 0) : ((hg 2 b 0 : Nat) : Int) = (((b 0 : Nat) : Int) - 192) * 64 + 63 := by
  have e : hg 2 b 0 = val 2 b 0 + st 2 0 - 1 := rfl
  have e2 : st 2 0 = 64 := rfl
  rw [e, val_21, e2]; omega
theorem hg0_3 (b : Nat → Nat) (h : 224 ≤ b 0) : ((hg 3 b 0 : Nat) : Int) = (((b 0 : Nat) : Int) - 224) * 4096 + 4095 := by
  have e : hg 3 b 0 = val 3 b 0 + st 3 0 - 1 := rfl
  have e2 : st 3 0 = 4096 := rfl
  rw [e, val_31, e2]; omega
set_option maxRecDepth 20000 in
theorem hg0_4 (b : Nat → Nat) (h : 240 ≤ b 0) : ((hg 4 b 0 : Nat) : Int) = min ((((b 0 : Nat) : Int) - 240) * 262144 + 262143) 1114111 := by
  have e2 : st 4 0 = 262144 := rfl
  have v : bs 4 b 0 * st 4 0 = val 4 b 0 := rfl
  rw [hg, if_pos rfl, v, val_41, e2]
  generalize b 0 = c at *
  obtain ⟨k, rfl⟩ : ∃ k, c = 240 + k := ⟨c - 240, by omega⟩
  rw [Nat.add_sub_cancel_left]
  omega
end Go.Proofs.YthkigjhbcempbaaDoor.Td
