/-
  PROVED HERE: the tokens of a text, by the document's machine and by the program's walk, in plain Lean: both say the same; the contracts of the functions about single bytes, of lex and of the document. Conditions: as each theorem states.
-/
import Derived.Test.YtkopjmofdnlplaaGreatDoorMem
import Derived.Test.YtkopjmofdnlplaaGreatDoorRows
import Derived.Test.YtkopjmofdnlplaaGreatDoorShelf
import Derived.Test.YtkopjmofdnlplaaGreatDoorOwn
namespace Go.Proofs.YtkopjmofdnlplaaGreatDoor.Lex
/-- What comes of a text: tokens (from where to where), or the place that is none. -/
inductive R where
  | ok (l : List (Nat × Nat))
  | bad (i : Nat)
def R.app (p : List (Nat × Nat)) : R → R
  | .ok l => .ok (p ++ l)
  | .bad i => .bad i
theorem R.app_nil (r : R) : R.app [] r = r := by cases r <;> rfl
theorem R.app_app (p q : List (Nat × Nat)) (r : R) : R.app p (R.app q r) = R.app (p ++ q) r := by cases r <;> simp [R.app]
def ltr (c : UInt8) : Bool := c == 95 || (decide (97 ≤ c) && decide (c ≤ 122)) || (decide (65 ≤ c) && decide (c ≤ 90))
def dgt (c : UInt8) : Bool := decide (48 ≤ c) && decide (c ≤ 57)
def wch (c : UInt8) : Bool := ltr c || dgt c
def blk (c : UInt8) : Bool := c == 32 || c == 10 || c == 9
def sgl (c : UInt8) : Bool := [123, 125, 91, 93, 40, 41, 59, 44, 61, 43, 45, 42, 38, 124, 60, 62].contains c
/-- How many bytes the mark at a beginning has. -/
def mk (c : UInt8) (r : List UInt8) : Nat := if (c == 61 || c == 33) && r.head? == some 61 then 2 else if sgl c then 1 else 0
inductive M where
  | plain
  | remark
  | word (w : Nat)
def M.rank : M → Nat
  | .word _ => 1
  | _ => 0
/-- The document's machine. -/
def lx (m : M) (i : Nat) (l : List UInt8) : R :=
  match m, l with
  | .plain, [] => .ok []
  | .remark, [] => .ok []
  | .word w, [] => .ok [(w, i)]
  | .remark, c :: r => lx (if c = 10 then .plain else .remark) (i + 1) r
  | .plain, c :: r => if wch c = true then lx (.word i) (i + 1) r else if blk c = true then lx .plain (i + 1) r else if c = 35 then lx .remark (i + 1) r else if mk c r = 0 then .bad i else R.app [(i, i + mk c r)] (lx .plain (i + mk c r) ((c :: r).drop (mk c r)))
  | .word w, c :: r => if wch c = true then lx (.word w) (i + 1) r else R.app [(w, i)] (lx .plain i (c :: r))
termination_by 2 * l.length + m.rank
decreasing_by
  · split <;> simp [M.rank] <;> omega
  · simp [M.rank] <;> omega
  · simp [M.rank] <;> omega
  · simp [M.rank] <;> omega
  · simp [M.rank] <;> omega
  · simp [M.rank] <;> omega
  · simp [M.rank] <;> omega
/-- How many bytes the program's token at a beginning has. -/
def nx (l : List UInt8) : Nat := match l with | [] => 0 | c :: r => if wch c = true then ((c :: r).takeWhile wch).length else mk c r
theorem lx_word (w : Nat) : ∀ (l : List UInt8) (i : Nat), lx (.word w) i l = R.app [(w, i + (l.takeWhile wch).length)] (lx .plain (i + (l.takeWhile wch).length) (l.drop (l.takeWhile wch).length))
  | [], i => by simp [lx, R.app]
  | c :: r, i => by
    rw [lx]
    by_cases h : wch c = true
    · rw [if_pos h, lx_word w r (i + 1), List.takeWhile_cons, if_pos h]
      simp only [List.length_cons, List.drop_succ_cons]
      rw [show i + 1 + (r.takeWhile wch).length = i + ((r.takeWhile wch).length + 1) by omega]
    · rw [if_neg h, List.takeWhile_cons, if_neg h]
      rfl
theorem mk_no (c : UInt8) (r : List UInt8) (i : Nat) (h1 : wch c = false) (h2 : blk c = false) (h3 : c ≠ 35) (h : mk c r = 0) : lx .plain i (c :: r) = .bad i := by
  rw [lx, if_neg (by rw [h1]; decide), if_neg (by rw [h2]; decide), if_neg h3, if_pos h]
/-- A blank is passed. -/
theorem lx_blank (c : UInt8) (r : List UInt8) (i : Nat) (h2 : blk c = true) : lx .plain i (c :: r) = lx .plain (i + 1) r := by
  have h1 : wch c = false := by
    unfold blk at h2
    simp only [Bool.or_eq_true, beq_iff_eq] at h2
    rcases h2 with (rfl | rfl) | rfl <;> decide
  rw [lx, if_neg (by rw [h1]; decide), if_pos h2]
theorem lx_hash (r : List UInt8) (i : Nat) : lx .plain i (35 :: r) = lx .remark i (35 :: r) := by
  have e : lx .remark i (35 :: r) = lx .remark (i + 1) r := by rw [lx, if_neg (by decide)]
  rw [e, lx, if_neg (by decide), if_neg (by decide), if_pos rfl]
theorem lx_line (r : List UInt8) (i : Nat) : lx .remark i (10 :: r) = lx .plain i (10 :: r) := by
  rw [lx_blank 10 r i (by decide), lx, if_pos rfl]
theorem lx_bad (c : UInt8) (r : List UInt8) (i : Nat) (h2 : blk c = false) (h3 : c ≠ 35) (h : nx (c :: r) = 0) : lx .plain i (c :: r) = .bad i := by
  unfold nx at h
  simp only at h
  by_cases h1 : wch c = true
  · rw [if_pos h1, List.takeWhile_cons, if_pos h1] at h
    cases h
  · rw [if_neg h1] at h
    exact mk_no c r i (by simpa using h1) h2 h3 h
theorem lx_token (c : UInt8) (r : List UInt8) (i : Nat) (h2 : blk c = false) (h3 : c ≠ 35) (h : 0 < nx (c :: r)) : lx .plain i (c :: r) = R.app [(i, i + nx (c :: r))] (lx .plain (i + nx (c :: r)) ((c :: r).drop (nx (c :: r)))) := by
  unfold nx at h ⊢
  simp only at h ⊢
  by_cases h1 : wch c = true
  · rw [if_pos h1] at h ⊢
    rw [lx, if_pos h1, lx_word i r (i + 1), List.takeWhile_cons, if_pos h1]
    simp only [List.length_cons, List.drop_succ_cons]
    rw [show i + 1 + (r.takeWhile wch).length = i + ((r.takeWhile wch).length + 1) by omega]
  · rw [if_neg h1] at h ⊢
    rw [lx, if_neg h1, if_neg (by rw [h2]; decide), if_neg h3, if_neg (by omega)]
theorem mk_le (c : UInt8) (r : List UInt8) : mk c r ≤ (c :: r).length := by
  unfold mk
  split
  · rename_i h
    cases r with
    | nil => simp at h
    | cons _ _ => simp
  · split <;> simp
theorem nx_le (l : List UInt8) : nx l ≤ l.length := by
  cases l with
  | nil => simp [nx]
  | cons c r =>
    unfold nx
    simp only
    split
    · exact List.Sublist.length_le (List.takeWhile_sublist _)
    · exact mk_le c r
end Go.Proofs.YtkopjmofdnlplaaGreatDoor.Lex
namespace Go.Proofs.YtkopjmofdnlplaaGreatDoor.Lex
open Go.RowKit
def lst (u : ByteArray) : List UInt8 := u.data.toList
theorem lst_len (u : ByteArray) : (lst u).length = u.size := rfl
theorem lst_cons (u : ByteArray) (h : 0 < u.size) : lst u = u[0] :: lst (u.extract 1 u.size) := by
  unfold lst
  rw [ByteArray.data_extract]
  have h1 : 0 < u.data.toList.length := h
  have e : u.data.toList = u.data.toList[0] :: u.data.toList.drop 1 := by
    rw [← List.drop_eq_getElem_cons h1]; rfl
  have e2 : (u.data.extract 1 u.size).toList = u.data.toList.drop 1 := by
    rw [Array.toList_extract, List.extract_eq_take_drop]
    rw [List.take_of_length_le (by rw [List.length_drop]; exact Nat.le_refl _)]
  rw [e2]
  exact e
theorem lst_nil {u : ByteArray} (h : ¬ 0 < u.size) : lst u = [] := List.eq_nil_of_length_eq_zero (by rw [lst_len]; omega)
theorem lst_drop (u : ByteArray) (k : Nat) : lst (u.extract k u.size) = (lst u).drop k := by
  unfold lst
  rw [ByteArray.data_extract, Array.toList_extract, List.extract_eq_take_drop]
  exact List.take_of_length_le (by rw [List.length_drop]; exact Nat.le_refl _)
theorem lst_at (u : ByteArray) (k : Nat) (h : k < u.size) : (lst u).drop k = u[k] :: (lst u).drop (k + 1) := by
  have h1 : k < (lst u).length := h
  rw [List.drop_eq_getElem_cons h1]
  rfl
theorem u8_lt (c : UInt8) : c.toNat < 256 := UInt8.toNat_lt c
theorem str_none (s : ByteArray) (h : s.size = 0) : s.toList.isEmpty = true := by
  rw [ByteArray.toList_eq]
  have e : s.data.toList.length = s.size := rfl
  rw [List.isEmpty_iff]
  exact List.eq_nil_of_length_eq_zero (by omega)
theorem of_all {p q : UInt8 → Bool} (h : ∀ n : Fin 256, p n.val.toUInt8 = q n.val.toUInt8) (c : UInt8) : p c = q c := by
  have := h ⟨c.toNat, u8_lt c⟩
  simpa using this
theorem byte_eq (n : Nat) (m : Int) (h : (n : Int) = m) : ((n : Int) == m) = true := by rw [beq_iff_eq]; exact h
theorem byte_ne (n : Nat) (m : Int) (h : (n : Int) ≠ m) : ((n : Int) == m) = false := by rw [beq_eq_false_iff_ne]; exact h
theorem ltr_of (c : UInt8) : ltr c = (decide (c.toNat = 95) || decide (97 ≤ c.toNat ∧ c.toNat ≤ 122) || decide (65 ≤ c.toNat ∧ c.toNat ≤ 90)) :=
  of_all (p := ltr) (q := fun c => decide (c.toNat = 95) || decide (97 ≤ c.toNat ∧ c.toNat ≤ 122) || decide (65 ≤ c.toNat ∧ c.toNat ≤ 90)) (by decide +kernel) c
theorem dgt_of (c : UInt8) : dgt c = decide (48 ≤ c.toNat ∧ c.toNat ≤ 57) := of_all (p := dgt) (q := fun c => decide (48 ≤ c.toNat ∧ c.toNat ≤ 57)) (by decide +kernel) c
set_option maxRecDepth 100000 in
theorem docLetter_any (c : UInt8) (W : World) : Calls Tryz.prog 139 #[.int .u8 c.toNat] W fun e w' => e = .returned (.bool (ltr c)) ∧ W = w' := by
  rw [ltr_of]
  have hc := u8_lt c
  generalize c.toNat = n at *
  rcases (show (0 ≤ n ∧ n ≤ 64) ∨ (65 ≤ n ∧ n ≤ 90) ∨ (91 ≤ n ∧ n ≤ 94) ∨ (95 ≤ n ∧ n ≤ 95) ∨ (96 ≤ n ∧ n ≤ 96) ∨ (97 ≤ n ∧ n ≤ 122) ∨ (123 ≤ n ∧ n ≤ 255) by omega) with ⟨h1, h2⟩ | ⟨h1, h2⟩ | ⟨h1, h2⟩ | ⟨h1, h2⟩ | ⟨h1, h2⟩ | ⟨h1, h2⟩ | ⟨h1, h2⟩
  · have b95 := byte_ne n 95 (by omega)
    rw [show (decide (n = 95) || decide (97 ≤ n ∧ n ≤ 122) || decide (65 ≤ n ∧ n ≤ 90)) = false by rw [decide_eq_false (show ¬ n = 95 by omega), decide_eq_false (show ¬ (97 ≤ n ∧ n ≤ 122) by omega), decide_eq_false (show ¬ (65 ≤ n ∧ n ≤ 90) by omega)]; rfl]
    go_enter Tryz.func139, Tryz.ntmps139
    go_wp2_with fail
    go_ret
    exact ⟨ret_bool (by first | rfl | exact decide_eq_true (by omega) | exact decide_eq_false (by omega) | (simp; omega)), rfl⟩
  · have b95 := byte_ne n 95 (by omega)
    rw [show (decide (n = 95) || decide (97 ≤ n ∧ n ≤ 122) || decide (65 ≤ n ∧ n ≤ 90)) = true by simp; omega]
    go_enter Tryz.func139, Tryz.ntmps139
    go_wp2_with fail
    go_ret
    exact ⟨ret_bool (by first | rfl | exact decide_eq_true (by omega) | exact decide_eq_false (by omega) | (simp; omega)), rfl⟩
  · have b95 := byte_ne n 95 (by omega)
    rw [show (decide (n = 95) || decide (97 ≤ n ∧ n ≤ 122) || decide (65 ≤ n ∧ n ≤ 90)) = false by rw [decide_eq_false (show ¬ n = 95 by omega), decide_eq_false (show ¬ (97 ≤ n ∧ n ≤ 122) by omega), decide_eq_false (show ¬ (65 ≤ n ∧ n ≤ 90) by omega)]; rfl]
    go_enter Tryz.func139, Tryz.ntmps139
    go_wp2_with fail
    go_ret
    exact ⟨ret_bool (by first | rfl | exact decide_eq_true (by omega) | exact decide_eq_false (by omega) | (simp; omega)), rfl⟩
  · have b95 := byte_eq n 95 (by omega)
    rw [show (decide (n = 95) || decide (97 ≤ n ∧ n ≤ 122) || decide (65 ≤ n ∧ n ≤ 90)) = true by simp; omega]
    go_enter Tryz.func139, Tryz.ntmps139
    go_wp2_with fail
    go_ret
    exact ⟨ret_bool (by first | rfl | exact decide_eq_true (by omega) | exact decide_eq_false (by omega) | (simp; omega)), rfl⟩
  · have b95 := byte_ne n 95 (by omega)
    rw [show (decide (n = 95) || decide (97 ≤ n ∧ n ≤ 122) || decide (65 ≤ n ∧ n ≤ 90)) = false by rw [decide_eq_false (show ¬ n = 95 by omega), decide_eq_false (show ¬ (97 ≤ n ∧ n ≤ 122) by omega), decide_eq_false (show ¬ (65 ≤ n ∧ n ≤ 90) by omega)]; rfl]
    go_enter Tryz.func139, Tryz.ntmps139
    go_wp2_with fail
    go_ret
    exact ⟨ret_bool (by first | rfl | exact decide_eq_true (by omega) | exact decide_eq_false (by omega) | (simp; omega)), rfl⟩
  · have b95 := byte_ne n 95 (by omega)
    rw [show (decide (n = 95) || decide (97 ≤ n ∧ n ≤ 122) || decide (65 ≤ n ∧ n ≤ 90)) = true by simp; omega]
    go_enter Tryz.func139, Tryz.ntmps139
    go_wp2_with fail
    go_ret
    exact ⟨ret_bool (by first | rfl | exact decide_eq_true (by omega) | exact decide_eq_false (by omega) | (simp; omega)), rfl⟩
  · have b95 := byte_ne n 95 (by omega)
    rw [show (decide (n = 95) || decide (97 ≤ n ∧ n ≤ 122) || decide (65 ≤ n ∧ n ≤ 90)) = false by rw [decide_eq_false (show ¬ n = 95 by omega), decide_eq_false (show ¬ (97 ≤ n ∧ n ≤ 122) by omega), decide_eq_false (show ¬ (65 ≤ n ∧ n ≤ 90) by omega)]; rfl]
    go_enter Tryz.func139, Tryz.ntmps139
    go_wp2_with fail
    go_ret
    exact ⟨ret_bool (by first | rfl | exact decide_eq_true (by omega) | exact decide_eq_false (by omega) | (simp; omega)), rfl⟩
set_option maxRecDepth 100000 in
theorem docDigit_any (c : UInt8) (W : World) : Calls Tryz.prog 140 #[.int .u8 c.toNat] W fun e w' => e = .returned (.bool (dgt c)) ∧ W = w' := by
  rw [dgt_of]
  have hc := u8_lt c
  generalize c.toNat = n at *
  rcases (show (0 ≤ n ∧ n ≤ 47) ∨ (48 ≤ n ∧ n ≤ 57) ∨ (58 ≤ n ∧ n ≤ 255) by omega) with ⟨h1, h2⟩ | ⟨h1, h2⟩ | ⟨h1, h2⟩
  · skip
    rw [show (decide (48 ≤ n ∧ n ≤ 57)) = false by simp; omega]
    go_enter Tryz.func140, Tryz.ntmps140
    go_wp2_with fail
    go_ret
    exact ⟨ret_bool (by first | rfl | exact decide_eq_true (by omega) | exact decide_eq_false (by omega) | (simp; omega)), rfl⟩
  · skip
    rw [show (decide (48 ≤ n ∧ n ≤ 57)) = true by simp; omega]
    go_enter Tryz.func140, Tryz.ntmps140
    go_wp2_with fail
    go_ret
    exact ⟨ret_bool (by first | rfl | exact decide_eq_true (by omega) | exact decide_eq_false (by omega) | (simp; omega)), rfl⟩
  · skip
    rw [show (decide (48 ≤ n ∧ n ≤ 57)) = false by simp; omega]
    go_enter Tryz.func140, Tryz.ntmps140
    go_wp2_with fail
    go_ret
    exact ⟨ret_bool (by first | rfl | exact decide_eq_true (by omega) | exact decide_eq_false (by omega) | (simp; omega)), rfl⟩
def isN (s : ByteArray) : Bool := match lst s with | [] => false | c :: _ => ltr c
theorem docName_any (s : ByteArray) (W : World) : Calls Tryz.prog 108 #[.string s] W fun e w' => e = .returned (.bool (isN s)) ∧ W = w' := by
  unfold isN
  by_cases h : 0 < s.size
  · rw [lst_cons s h]
    simp only
    have hf := str_full s (by omega)
    have C := Lib.hid (docLetter_any s[0])
    go_enter Tryz.func108, Tryz.ntmps108
    go_wp2_with fail
    refine (C.out _).mono ?_; rintro e w' ⟨rfl, rfl⟩
    go_wp2_with fail
    go_ret
    exact ⟨rfl, rfl⟩
  · rw [lst_nil h]
    simp only
    have hf := str_none s (by omega)
    go_enter Tryz.func108, Tryz.ntmps108
    go_wp2_with fail
    go_ret
    exact ⟨rfl, rfl⟩
end Go.Proofs.YtkopjmofdnlplaaGreatDoor.Lex
