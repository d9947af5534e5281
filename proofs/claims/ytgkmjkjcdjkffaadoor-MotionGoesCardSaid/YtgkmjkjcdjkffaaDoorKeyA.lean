/-
  PROVED HERE: what keys are, by a walk through them and by the document's trial of ends, in plain Lean: both say the same. Conditions: as each theorem states.
-/
import Derived.Test.YtgkmjkjcdjkffaaDoorMem
namespace Go.Proofs.YtgkmjkjcdjkffaaDoor.Key
structure Cm where
  reg : UInt8
  n : Nat
  op : UInt8
  move : UInt8
  arg : List UInt8
def cm0 : Cm := ⟨0, 0, 0, 0, []⟩
def mot (c : UInt8) : Bool := [104, 108, 106, 107, 48, 36, 103, 71, 119, 98, 110, 78, 91, 93].contains c
def far (c : UInt8) : Bool := [39, 102].contains c
def alone (c : UInt8) : Bool := [120, 112, 80, 105, 97, 82, 117, 118, 85, 46, 126, 18, 58, 47].contains c
def letter (c : UInt8) : Bool := [109, 113, 64].contains c
def pair (c : UInt8) : Bool := [114].contains c
def dyc (c : UInt8) : Bool := [100, 121, 99].contains c
def known (c : UInt8) : Bool := mot c || far c || alone c || letter c || pair c
def regOk (c : UInt8) : Bool := decide (97 ≤ c ∧ c ≤ 122) || decide (65 ≤ c ∧ c ≤ 90) || decide (49 ≤ c ∧ c ≤ 57)
def hexd (c : UInt8) : Bool := decide (48 ≤ c ∧ c ≤ 57) || decide (97 ≤ c ∧ c ≤ 102) || decide (65 ≤ c ∧ c ≤ 70)
def small (c : UInt8) : Bool := decide (97 ≤ c ∧ c ≤ 122)
/-- How many keys stand behind a key, and whether one may. -/
def argn (c : UInt8) : Nat := if c = 39 ∨ letter c = true then 1 else if c = 102 ∨ c = 114 then 2 else 0
def okA (n : Nat) (c : UInt8) : Bool := if n = 1 then small c else hexd c
def isD (n : Nat) (c : UInt8) : Bool := decide (48 ≤ c ∧ c ≤ 57) && (decide (0 < n) || c != 48)
/-- A number is taken off. -/
def ct : Nat → List UInt8 → Nat × List UInt8
  | n, [] => (n, [])
  | n, c :: r => if isD n c = true then ct (min (n * 10 + (c.toNat - 48)) 9999) r else (n, c :: r)
inductive Out where
  | more
  | done (c : Cm) (r : List UInt8)
  | bad (r : List UInt8) (w : Bool)
def fin (key : UInt8) (c : Cm) (l : List UInt8) : Out :=
  if (l.take (argn key)).any (fun x => !okA (argn key) x) = true then .bad (l.drop (argn key)) (decide (l.length < argn key)) else if l.length < argn key then .more else .done { c with arg := l.take (argn key) } (l.drop (argn key))
def nn (n m : Nat) : Nat := if 0 < m then min (max n 1 * m) 9999 else n
def bd2 (reg : UInt8) (n : Nat) (op : UInt8) : List UInt8 → Out
  | [] => .more
  | mv :: l => if mv = op then .done ⟨reg, n, op, mv, []⟩ l else if (mot mv || far mv) = true then fin mv ⟨reg, n, op, mv, []⟩ l else .bad l false
def bd1 (reg : UInt8) (n : Nat) : List UInt8 → Out
  | [] => .more
  | op :: l => if dyc op = true then bd2 reg (nn n (ct 0 l).1) op (ct 0 l).2 else if known op = true then fin op ⟨reg, n, op, 0, []⟩ l else .bad l false
def body (reg : UInt8) (l : List UInt8) : Out := bd1 reg (ct 0 l).1 (ct 0 l).2
/-- The program's way. -/
def pp : List UInt8 → Out
  | [] => .more
  | c :: r => if c = 34 then (match r with | [] => .more | g :: r => if regOk g = true then body g r else .bad r false) else body 0 (c :: r)
/-- The document's: whether keys are just one command. -/
def tl (key : UInt8) (l : List UInt8) : Bool := decide (l.length = argn key) && l.all (okA (argn key))
def db2 (reg : UInt8) (n : Nat) (op : UInt8) : List UInt8 → Cm × Bool
  | [] => (⟨reg, n, op, 0, []⟩, false)
  | mv :: l => if mv = op then (⟨reg, n, op, mv, l⟩, l.isEmpty) else (⟨reg, n, op, mv, l⟩, (mot mv || far mv) && tl mv l)
def db1 (reg : UInt8) (n : Nat) : List UInt8 → Cm × Bool
  | [] => (⟨reg, n, 0, 0, []⟩, false)
  | op :: l => if dyc op = true then db2 reg (nn n (ct 0 l).1) op (ct 0 l).2 else (⟨reg, n, op, 0, l⟩, known op && tl op l)
def dbody (reg : UInt8) (l : List UInt8) : Cm × Bool := db1 reg (ct 0 l).1 (ct 0 l).2
def fc : List UInt8 → Cm × Bool
  | [] => dbody 0 []
  | c :: r => if c = 34 then (match r with | [] => dbody 0 [c] | g :: r => if regOk g = true then dbody g r else (⟨g, 0, 0, 0, []⟩, false)) else dbody 0 (c :: r)
/-- A command that takes all keys. -/
def Full (o : Out) (p : Cm × Bool) : Prop := (p.2 = true → o = .done p.1 []) ∧ ∀ c, o = .done c [] → p = (c, true)
theorem take_all_eq (l : List UInt8) (n : Nat) (h : l.length = n) : l.take n = l := List.take_of_length_le (by omega)
theorem fin_full (key : UInt8) (c : Cm) (l : List UInt8) (b : Bool) (hb : b = true) : Full (fin key c l) ({ c with arg := l }, b && tl key l) := by
  subst hb
  rw [Bool.true_and]
  unfold Full fin tl
  constructor
  · intro h
    simp only [Bool.and_eq_true, decide_eq_true_eq] at h
    obtain ⟨h1, h2⟩ := h
    rw [take_all_eq l _ h1, if_neg, if_neg (by omega), List.drop_of_length_le (by omega)]
    rw [List.any_eq_true]
    rintro ⟨x, hx, hn⟩
    rw [List.all_eq_true] at h2
    rw [h2 x hx] at hn
    cases hn
  · intro c' h
    split at h
    · cases h
    · rename_i ha
      split at h
      · cases h
      · rename_i hl
        injection h with h1 h2
        rw [List.drop_eq_nil_iff] at h2
        have hn : l.length = argn key := by omega
        rw [take_all_eq l _ hn] at ha h1
        rw [← h1]
        rw [List.any_eq_true] at ha
        have : l.all (okA (argn key)) = true := by
          rw [List.all_eq_true]
          intro x hx
          rcases hk : okA (argn key) x with _ | _
          · exact absurd ⟨x, hx, by rw [hk]; rfl⟩ ha
          · rfl
        rw [hn, this]
        simp
theorem bd2_full (reg : UInt8) (n : Nat) (op : UInt8) (l : List UInt8) : Full (bd2 reg n op l) (db2 reg n op l) := by
  cases l with
  | nil => exact ⟨fun h => (by cases h), fun c h => (by cases h)⟩
  | cons mv l =>
    rw [bd2, db2]
    by_cases h1 : mv = op
    · rw [if_pos h1, if_pos h1]
      constructor
      · intro h
        rw [List.isEmpty_iff.1 h]
      · intro c h
        injection h with h2 h3
        rw [← h2, h3]
        rfl
    · rw [if_neg h1, if_neg h1]
      by_cases h2 : (mot mv || far mv) = true
      · rw [if_pos h2]
        exact fin_full mv ⟨reg, n, op, mv, []⟩ l _ h2
      · rw [if_neg h2]
        have h3 : (mot mv || far mv) = false := by simpa using h2
        rw [h3]
        exact ⟨fun h => (by cases h), fun c h => (by cases h)⟩
theorem bd1_full (reg : UInt8) (n : Nat) (l : List UInt8) : Full (bd1 reg n l) (db1 reg n l) := by
  cases l with
  | nil => exact ⟨fun h => (by cases h), fun c h => (by cases h)⟩
  | cons op l =>
    rw [bd1, db1]
    by_cases h1 : dyc op = true
    · rw [if_pos h1, if_pos h1]
      exact bd2_full _ _ _ _
    · rw [if_neg h1, if_neg h1]
      by_cases h2 : known op = true
      · rw [if_pos h2]
        exact fin_full op ⟨reg, n, op, 0, []⟩ l _ h2
      · rw [if_neg h2]
        have h3 : known op = false := by simpa using h2
        rw [h3]
        exact ⟨fun h => (by cases h), fun c h => (by cases h)⟩
theorem fc_full (l : List UInt8) : Full (pp l) (fc l) := by
  cases l with
  | nil => exact ⟨fun h => (by cases h), fun c h => (by cases h)⟩
  | cons c r =>
    unfold pp fc
    simp only
    by_cases h1 : c = 34
    · rw [if_pos h1, if_pos h1]
      cases r with
      | nil =>
        subst h1
        exact ⟨fun h => (by cases h), fun c h => (by cases h)⟩
      | cons g r =>
        simp only
        by_cases h2 : regOk g = true
        · rw [if_pos h2, if_pos h2]
          exact bd1_full _ _ _
        · rw [if_neg h2, if_neg h2]
          exact ⟨fun h => (by cases h), fun c h => (by cases h)⟩
    · rw [if_neg h1, if_neg h1]
      exact bd1_full _ _ _
/-- What more keys behind do. -/
def Ext (t : List UInt8) : Out → Out → Prop
  | .more, _ => True
  | .done c r, o => o = .done c (r ++ t)
  | .bad r w, o => o = .bad (if w = true then t.drop 1 else r ++ t) (w && t.isEmpty)
/-- What one key more does, where there were too few. -/
def One : Out → Prop
  | .more => True
  | .done _ r => r = []
  | .bad r _ => r = []
theorem ct_app : ∀ (l : List UInt8) (n : Nat) (t : List UInt8), ct n (l ++ t) = if (ct n l).2 = [] then ct (ct n l).1 t else ((ct n l).1, (ct n l).2 ++ t)
  | [], n, t => by simp [ct]
  | c :: r, n, t => by
    rw [List.cons_append, ct, ct]
    by_cases h : isD n c = true
    · rw [if_pos h, if_pos h]
      exact ct_app r _ t
    · rw [if_neg h, if_neg h]
      simp
theorem argn_le (c : UInt8) : argn c ≤ 2 := by
  unfold argn
  split
  · decide
  · split <;> decide
theorem fin_ext (key : UInt8) (c : Cm) (l t : List UInt8) : Ext t (fin key c l) (fin key c (l ++ t)) := by
  have hn := argn_le key
  unfold fin
  generalize argn key = n at *
  rcases (show n = 0 ∨ n = 1 ∨ n = 2 by omega) with rfl | rfl | rfl
  · simp [Ext]
  · cases l with
    | nil => simp [Ext]
    | cons x l =>
      simp only [List.take_succ_cons, List.take_zero, List.drop_succ_cons, List.drop_zero, List.cons_append, List.length_cons, List.any_cons, List.any_nil, Bool.or_false]
      by_cases h : (!okA 1 x) = true
      · rw [if_pos h, if_pos h]; simp [Ext]
      · rw [if_neg h, if_neg h]; simp [Ext]
  · rcases l with _ | ⟨x, _ | ⟨y, l⟩⟩
    · simp [Ext]
    · simp only [List.take_succ_cons, List.take_nil, List.drop_succ_cons, List.drop_nil, List.cons_append, List.nil_append, List.length_cons, List.length_nil, List.any_cons, List.any_nil, Bool.or_false]
      by_cases h : (!okA 2 x) = true
      · rw [if_pos h, if_pos (by rw [h]; rfl)]
        cases t with
        | nil => simp [Ext]
        | cons y t => simp [Ext]
      · rw [if_neg h]; simp [Ext]
    · simp only [List.take_succ_cons, List.take_zero, List.drop_succ_cons, List.drop_zero, List.cons_append, List.length_cons, List.any_cons, List.any_nil, Bool.or_false]
      by_cases h : (!okA 2 x || !okA 2 y) = true
      · rw [if_pos h, if_pos h]
        simp [Ext, show ¬ (l.length + 1 + 1 < 2) by omega, show ¬ (l.length + t.length + 1 + 1 < 2) by omega]
      · rw [if_neg h, if_neg h, if_neg (by omega), if_neg (by simp)]
        simp [Ext]
theorem bd2_ext (reg : UInt8) (n : Nat) (op : UInt8) (l t : List UInt8) : Ext t (bd2 reg n op l) (bd2 reg n op (l ++ t)) := by
  cases l with
  | nil => simp [bd2, Ext]
  | cons mv l =>
    rw [List.cons_append, bd2, bd2]
    split
    · simp [Ext]
    · split
      · exact fin_ext _ _ _ _
      · simp [Ext]
theorem bd1_ext (reg : UInt8) (n : Nat) (l t : List UInt8) : Ext t (bd1 reg n l) (bd1 reg n (l ++ t)) := by
  cases l with
  | nil => simp [bd1, Ext]
  | cons op l =>
    rw [List.cons_append, bd1, bd1]
    split
    · rw [ct_app]
      split
      · rename_i h
        rw [h]
        simp [bd2, Ext]
      · exact bd2_ext _ _ _ _ _
    · split
      · exact fin_ext _ _ _ _
      · simp [Ext]
theorem body_ext (reg : UInt8) (l t : List UInt8) : Ext t (body reg l) (body reg (l ++ t)) := by
  unfold body
  rw [ct_app]
  split
  · rename_i h
    rw [h]
    simp [bd1, Ext]
  · exact bd1_ext _ _ _ _
theorem pp_ext (l t : List UInt8) : Ext t (pp l) (pp (l ++ t)) := by
  cases l with
  | nil => simp [pp, Ext]
  | cons c r =>
    rw [List.cons_append]
    unfold pp
    simp only
    split
    · cases r with
      | nil => simp [Ext]
      | cons g r =>
        simp only [List.cons_append]
        split
        · exact body_ext _ _ _
        · simp [Ext]
    · exact body_ext _ _ _
end Go.Proofs.YtgkmjkjcdjkffaaDoor.Key
