/-
  PROVED HERE: the contract of the document's fullCmd. Conditions: as each theorem states.
-/
import Derived.Test.YtgkmjkjcdjkffaaDoorKeyE
import Derived.Test.YtgkmjkjcdjkffaaDoorKeyR
import Derived.Deep.RegionLaw
import Derived.Deep.RegionWith
import Derived.StillTailTactics
import Derived.Deep.RegionHeld3
import Derived.Deep.DeepCutAuto
namespace Go.Proofs.YtgkmjkjcdjkffaaDoor.Key
open Go.RowKit
def Cv (c : Cm) : Value := .agg #[.int .u8 c.reg.toNat, .int .i64 c.n, .int .u8 c.op.toNat, .int .u8 c.move.toNat, .string ⟨c.arg.toArray⟩]
theorem arr_lst (u : ByteArray) : (⟨(lst u).toArray⟩ : ByteArray) = u := by unfold lst; rw [Array.toArray_toList]
def FP (s : ByteArray) (W : World) (e : Ending) (w' : World) : Prop := e = .returned (.tuple #[Cv (fc (lst s)).1, .bool (fc (lst s)).2]) ∧ Below W.heap.size W w'
theorem fc_short (s : ByteArray) (h : s.size ≤ 1) : fc (lst s) = dbody 0 (lst s) := by
  by_cases h0 : 0 < s.size
  · rw [lst_one s (by omega)]
    unfold fc
    simp only
    split <;> rfl
  · rw [lst_nil h0]; rfl
theorem lst_two_more (s : ByteArray) (h : 1 < s.size) : lst s = s[0] :: s[1] :: lst (s.extract 2 s.size) := by
  unfold lst
  have h1 : 1 < s.data.toList.length := h
  have e2 : (s.data.extract 2 s.size).toList = s.data.toList.drop 2 := by
    rw [Array.toList_extract, List.extract_eq_take_drop]
    rw [List.take_of_length_le (by rw [List.length_drop]; exact Nat.le_refl _)]
  rw [ByteArray.data_extract, e2]
  have a0 : s.data.toList = s.data.toList[0] :: s.data.toList.drop 1 := by rw [← List.drop_eq_getElem_cons (by omega)]; rfl
  have a1 : s.data.toList.drop 1 = s.data.toList[1] :: s.data.toList.drop 2 := List.drop_eq_getElem_cons h1
  rw [a1] at a0
  exact a0
theorem fc_plain (s : ByteArray) (h : 1 < s.size) (hq : s[0].toNat ≠ 34) : fc (lst s) = dbody 0 (lst s) := by
  rw [lst_two_more s h]
  unfold fc
  simp only
  rw [if_neg (fun e => hq (by rw [e]; rfl))]
theorem fc_reg (s : ByteArray) (h : 1 < s.size) (hq : s[0].toNat = 34) (hr : regOk s[1] = true) : fc (lst s) = dbody s[1] (lst (s.extract 2 s.size)) := by
  rw [lst_two_more s h]
  unfold fc
  simp only
  rw [if_pos (UInt8.toNat_inj.1 hq), if_pos hr]
theorem fc_bad (s : ByteArray) (h : 1 < s.size) (hq : s[0].toNat = 34) (hr : regOk s[1] = false) : fc (lst s) = (⟨s[1], 0, 0, 0, []⟩, false) := by
  rw [lst_two_more s h]
  unfold fc
  simp only
  rw [if_pos (UInt8.toNat_inj.1 hq), if_neg (by rw [hr]; decide)]
theorem regOk_of (c : UInt8) : regOk c = (decide (97 ≤ c.toNat ∧ c.toNat ≤ 122) || decide (65 ≤ c.toNat ∧ c.toNat ≤ 90) || decide (49 ≤ c.toNat ∧ c.toNat ≤ 57)) := by
  unfold regOk
  simp only [UInt8.le_iff_toNat_le]
  rfl
theorem rn_of (c : UInt8) : rn c = (decide (c.toNat = 34) || decide (97 ≤ c.toNat ∧ c.toNat ≤ 122) || decide (65 ≤ c.toNat ∧ c.toNat ≤ 90)) := by
  unfold rn
  congr 2
  by_cases h : c = 34
  · subst h; rfl
  · have : c.toNat ≠ 34 := fun e => h (UInt8.toNat_inj.1 e)
    rw [decide_eq_false this, beq_eq_false_iff_ne]; exact h
theorem byte_eq (n : Nat) (m : Int) (h : (n : Int) = m) : ((n : Int) == m) = true := by rw [beq_iff_eq]; exact h
theorem byte_ne (n : Nat) (m : Int) (h : (n : Int) ≠ m) : ((n : Int) == m) = false := by rw [beq_eq_false_iff_ne]; exact h
/-- The two blocks of fullCmd. -/
def Fw (W : World) (reg : UInt8) : World := (W.alloc (.cells #[.int .u8 0, .int .i64 0, .int .u8 0, .int .u8 0, .string ⟨#[]⟩] 26)).alloc (.cells #[.int .u8 reg.toNat, .int .i64 0, .int .u8 0, .int .u8 0, .string ⟨#[]⟩] 26)
def Gw (W : World) (reg : UInt8) (n : Nat) (op : UInt8) : World := ((W.alloc (.cells #[.int .u8 0, .int .i64 0, .int .u8 0, .int .u8 0, .string ⟨#[]⟩] 26)).alloc (.cells #[.int .u8 reg.toNat, .int .i64 n, .int .u8 op.toNat, .int .u8 0, .string ⟨#[]⟩] 26)).drew
theorem cmd_end (s : ByteArray) (W : World) (a : Act) (w : World) (c : Cm) (b : Bool) (hfc : fc (lst s) = (c, b)) (hB : Below W.heap.size W w) (hd : a.defers = []) (h2 : a.tmps.getD 2 undef = .pointer (some ⟨W.heap.size, 0, none⟩)) (h3 : a.tmps.getD 3 undef = .bool b)
    (c0 : w.cell? ⟨W.heap.size, 0, none⟩ = some (.int .u8 c.reg.toNat)) (c1 : w.cell? ⟨W.heap.size, 1, none⟩ = some (.int .i64 c.n)) (c2 : w.cell? ⟨W.heap.size, 2, none⟩ = some (.int .u8 c.op.toNat)) (c3 : w.cell? ⟨W.heap.size, 3, none⟩ = some (.int .u8 c.move.toNat)) (c4 : w.cell? ⟨W.heap.size, 4, none⟩ = some (.string ⟨c.arg.toArray⟩)) :
    bodyPost Tryd.prog Tryd.f11 (FP s W) .ret a w :=
  ⟨hd, _, cmd_results a.tmps w W.heap.size _ _ _ _ _ h2 c0 c1 c2 c3 c4, by rw [h3]; exact ⟨by rw [hfc]; rfl, hB⟩⟩
/-- Five stores, one behind the other. -/
def put5 (w : World) (g : Nat) (v0 v1 v2 v3 v4 : Value) : World := ((((w.setCell ⟨g, 0, none⟩ v0).setCell ⟨g, 1, none⟩ v1).setCell ⟨g, 2, none⟩ v2).setCell ⟨g, 3, none⟩ v3).setCell ⟨g, 4, none⟩ v4
theorem set5 {w : World} {g : Nat} {v0 v1 v2 v3 v4 z0 z1 z2 z3 z4 : Value} (r0 : w.cell? ⟨g, 0, none⟩ = some z0) (r1 : w.cell? ⟨g, 1, none⟩ = some z1) (r2 : w.cell? ⟨g, 2, none⟩ = some z2) (r3 : w.cell? ⟨g, 3, none⟩ = some z3) (r4 : w.cell? ⟨g, 4, none⟩ = some z4) :
    (put5 w g v0 v1 v2 v3 v4).cell? ⟨g, 0, none⟩ = some v0 ∧ (put5 w g v0 v1 v2 v3 v4).cell? ⟨g, 1, none⟩ = some v1 ∧ (put5 w g v0 v1 v2 v3 v4).cell? ⟨g, 2, none⟩ = some v2 ∧ (put5 w g v0 v1 v2 v3 v4).cell? ⟨g, 3, none⟩ = some v3 ∧ (put5 w g v0 v1 v2 v3 v4).cell? ⟨g, 4, none⟩ = some v4 := by
  unfold put5
  refine ⟨?_, ?_, ?_, ?_, ?_⟩
  · rw [World.cell?_setCell_other _ _ _ _ (by simp), World.cell?_setCell_other _ _ _ _ (by simp), World.cell?_setCell_other _ _ _ _ (by simp), World.cell?_setCell_other _ _ _ _ (by simp)]
    exact World.cell?_setCell_same _ _ _ r0
  · rw [World.cell?_setCell_other _ _ _ _ (by simp), World.cell?_setCell_other _ _ _ _ (by simp), World.cell?_setCell_other _ _ _ _ (by simp)]
    exact World.cell?_setCell_same _ _ _ (by rw [World.cell?_setCell_other _ _ _ _ (by simp)]; exact r1)
  · rw [World.cell?_setCell_other _ _ _ _ (by simp), World.cell?_setCell_other _ _ _ _ (by simp)]
    exact World.cell?_setCell_same _ _ _ (by rw [World.cell?_setCell_other _ _ _ _ (by simp), World.cell?_setCell_other _ _ _ _ (by simp)]; exact r2)
  · rw [World.cell?_setCell_other _ _ _ _ (by simp)]
    exact World.cell?_setCell_same _ _ _ (by rw [World.cell?_setCell_other _ _ _ _ (by simp), World.cell?_setCell_other _ _ _ _ (by simp), World.cell?_setCell_other _ _ _ _ (by simp)]; exact r3)
  · exact World.cell?_setCell_same _ _ _ (by rw [World.cell?_setCell_other _ _ _ _ (by simp), World.cell?_setCell_other _ _ _ _ (by simp), World.cell?_setCell_other _ _ _ _ (by simp), World.cell?_setCell_other _ _ _ _ (by simp)]; exact r4)
theorem put5_below {W w : World} {g : Nat} {B : Nat} (hB : Below B W w) (hg : B ≤ g) (v0 v1 v2 v3 v4 : Value) : Below B W (put5 w g v0 v1 v2 v3 v4) :=
  ((((hB.setCell (p := ⟨g, 0, none⟩) hg _).setCell (p := ⟨g, 1, none⟩) hg _).setCell (p := ⟨g, 2, none⟩) hg _).setCell (p := ⟨g, 3, none⟩) hg _).setCell (p := ⟨g, 4, none⟩) hg _
theorem cmd_end5 (s : ByteArray) (W : World) (a : Act) (w : World) (reg : UInt8) (n : Nat) (op mv : UInt8) (u : ByteArray) (b : Bool) {z0 z1 z2 z3 z4 : Value} (hfc : fc (lst s) = (⟨reg, n, op, mv, lst u⟩, b)) (hB : Below W.heap.size W w) (hd : a.defers = []) (h2 : a.tmps.getD 2 undef = .pointer (some ⟨W.heap.size, 0, none⟩)) (h3 : a.tmps.getD 3 undef = .bool b)
    (r0 : w.cell? ⟨W.heap.size, 0, none⟩ = some z0) (r1 : w.cell? ⟨W.heap.size, 1, none⟩ = some z1) (r2 : w.cell? ⟨W.heap.size, 2, none⟩ = some z2) (r3 : w.cell? ⟨W.heap.size, 3, none⟩ = some z3) (r4 : w.cell? ⟨W.heap.size, 4, none⟩ = some z4) :
    bodyPost Tryd.prog Tryd.f11 (FP s W) .ret a (put5 w W.heap.size (.int .u8 reg.toNat) (.int .i64 n) (.int .u8 op.toNat) (.int .u8 mv.toNat) (.string u)) := by
  obtain ⟨c0, c1, c2, c3, c4⟩ := set5 (v0 := .int .u8 reg.toNat) (v1 := .int .i64 n) (v2 := .int .u8 op.toNat) (v3 := .int .u8 mv.toNat) (v4 := .string u) r0 r1 r2 r3 r4
  exact cmd_end s W a _ ⟨reg, n, op, mv, lst u⟩ b hfc (put5_below hB (Nat.le_refl _) _ _ _ _ _) hd h2 h3 c0 c1 c2 c3 (by rw [arr_lst]; exact c4)
theorem nn_zero (m : Nat) : nn m 0 = m := by unfold nn; rw [if_neg (by omega)]
theorem nn_pos (m k : Nat) (hk : 0 < k) : min ((k : Int) * max (m : Int) 1) 9999 = ((nn m k : Nat) : Int) := by
  unfold nn
  rw [if_pos hk]
  have e : ((max m 1 : Nat) : Int) = max (m : Int) 1 := by omega
  have e2 : ((k * max m 1 : Nat) : Int) = (k : Int) * (max m 1 : Nat) := Int.natCast_mul _ _
  rw [← e, ← e2, Nat.mul_comm]
  omega
theorem nn_in (m k : Nat) (hm : m ≤ 9999) (hk : k ≤ 9999) : IntKind.i64.wrap ((k : Int) * max (m : Int) 1) = (k : Int) * max (m : Int) 1 := by
  have e : ((max m 1 : Nat) : Int) = max (m : Int) 1 := by omega
  have e2 : ((k * max m 1 : Nat) : Int) = (k : Int) * (max m 1 : Nat) := Int.natCast_mul _ _
  have h : k * max m 1 ≤ 9999 * 9999 := Nat.mul_le_mul hk (by omega)
  rw [← e, ← e2]
  exact IntWalk.i64_in _ (by omega)
theorem ix_ex (t : ByteArray) (c : UInt8) (b : Bool) (h : decide (0 ≤ Lib.indexByte t.data.toList c) = b) : ∃ z : Int, decide (0 ≤ z) = b ∧ ∀ W, Calls Tryd.prog 13 #[.string t, .int .u8 c.toNat] W fun e w' => e = .returned (.int .i64 z) ∧ W = w' := by
  refine ⟨_, h, fun W => (Tryd.strings_IndexByte t c.toNat W).mono fun e w' ⟨h1, h2⟩ => ⟨?_, h2.symm⟩⟩
  rw [h1, u8_back]
def plist (s : ByteArray) : List UInt8 := if h : 1 < s.size then (if s[0].toNat = 34 then lst (s.extract 2 s.size) else lst s) else lst s
theorem pl_short (s : ByteArray) (h : s.size ≤ 1) : lst s = plist s := by
  unfold plist
  rw [dif_neg (by omega)]
theorem pl_plain (s : ByteArray) (h : 1 < s.size) (hq : s[0].toNat ≠ 34) : lst s = plist s := by
  unfold plist
  rw [dif_pos h, if_neg hq]
theorem pl_reg (s : ByteArray) (h : 1 < s.size) (hq : s[0].toNat = 34) : lst (s.extract 2 s.size) = plist s := by
  unfold plist
  rw [dif_pos h, if_pos hq]
/-- Four classes of keys: one theorem of all was too great. -/
def clsL (l : List UInt8) : Nat := match l with
  | [] => 0
  | op :: l => if dyc op = true then (match (ct 0 l).2 with | [] => 0 | mv :: _ => if mv = op then 0 else if (mot mv || far mv) = true then 0 else 3) else if (mot op || far op) = true then 2 else if (alone op || letter op || pair op) = true then 0 else 1
def cls (s : ByteArray) : Nat := clsL (ct 0 (plist s)).2
theorem cls_dyc (op : UInt8) (l : List UInt8) (h : dyc op = true) : clsL (op :: l) = 0 ∨ clsL (op :: l) = 3 := by
  rw [clsL]
  rw [if_pos h]
  split
  · exact .inl rfl
  · split
    · exact .inl rfl
    · split
      · exact .inl rfl
      · exact .inr rfl
theorem cls_not (op : UInt8) (l : List UInt8) (h : dyc op = false) : clsL (op :: l) = if (mot op || far op) = true then 2 else if (alone op || letter op || pair op) = true then 0 else 1 := by
  rw [clsL, if_neg (by rw [h]; decide)]
theorem cls_end (op : UInt8) (l : List UInt8) (h : dyc op = true) (h2 : (ct 0 l).2 = []) : clsL (op :: l) = 0 := by
  rw [clsL, if_pos h, h2]
theorem cls_same (op : UInt8) (l : List UInt8) (h : dyc op = true) (mv : UInt8) (r : List UInt8) (h2 : (ct 0 l).2 = mv :: r) (h3 : mv = op) : clsL (op :: l) = 0 := by
  rw [clsL, if_pos h, h2]
  simp only
  rw [if_pos h3]
theorem cls_move (op : UInt8) (l : List UInt8) (h : dyc op = true) (mv : UInt8) (r : List UInt8) (h2 : (ct 0 l).2 = mv :: r) (h3 : mv ≠ op) : clsL (op :: l) = if (mot mv || far mv) = true then 0 else 3 := by
  rw [clsL, if_pos h, h2]
  simp only
  rw [if_neg h3]
theorem cls_lt (s : ByteArray) : cls s = 0 ∨ cls s = 1 ∨ cls s = 2 ∨ cls s = 3 := by
  unfold cls
  cases (ct 0 (plist s)).2 with
  | nil => exact .inl rfl
  | cons op l =>
    rcases h : dyc op with _ | _
    · rw [cls_not op l h]
      split
      · exact .inr (.inr (.inl rfl))
      · split
        · exact .inl rfl
        · exact .inr (.inl rfl)
    · rcases cls_dyc op l h with h | h
      · exact .inl h
      · exact .inr (.inr (.inr h))
end Go.Proofs.YtgkmjkjcdjkffaaDoor.Key
