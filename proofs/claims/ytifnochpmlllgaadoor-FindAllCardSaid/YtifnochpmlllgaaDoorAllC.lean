/-
  PROVED HERE: the contracts of find.Next, find.Borders. Conditions: as each theorem states.
-/
import Derived.Test.YtifnochpmlllgaaDoorAllB
namespace Go.Proofs.YtifnochpmlllgaaDoor.All
open Go.RowKit
/-- Places round about from a place on. -/
def rd (l : List Int) (f : Int) : List Int := l.filter (fun x => decide (f ≤ x)) ++ l.filter (fun x => decide (x < f))
theorem rd_len (l : List Int) (f : Int) : (rd l f).length = l.length := by
  unfold rd
  induction l with
  | nil => rfl
  | cons a l ih =>
    rw [List.length_append] at ih ⊢
    by_cases h : f ≤ a
    · simp only [List.filter_cons, decide_eq_true h, decide_eq_false (show ¬ a < f by omega), if_true, List.length_cons] at ih ⊢
      simp at ih ⊢; omega
    · simp only [List.filter_cons, decide_eq_false h, decide_eq_true (show a < f by omega), if_true, List.length_cons] at ih ⊢
      simp at ih ⊢; omega
theorem filter_none {l : List Int} {q : Int → Bool} (h : ∀ j (hj : j < l.length), q l[j] = false) : l.filter q = [] := by
  rw [List.filter_eq_nil_iff]
  intro x hx
  obtain ⟨j, hj, rfl⟩ := List.getElem_of_mem hx
  rw [h j hj]; decide
theorem filter_all {l : List Int} {q : Int → Bool} (h : ∀ j (hj : j < l.length), q l[j] = true) : l.filter q = l := by
  rw [List.filter_eq_self]
  intro x hx
  obtain ⟨j, hj, rfl⟩ := List.getElem_of_mem hx
  exact h j hj
theorem filter_first {l : List Int} {q : Int → Bool} {k : Nat} (hk : k < l.length) (h : ∀ j (hj : j < l.length), j < k → q l[j] = false) (hq : q l[k] = true) : ∃ r, l.filter q = l[k] :: r := by
  refine ⟨(l.drop (k + 1)).filter q, ?_⟩
  have e : l = l.take k ++ l[k] :: l.drop (k + 1) := by rw [← List.drop_eq_getElem_cons hk, List.take_append_drop]
  conv => lhs; rw [e]
  rw [List.filter_append, List.filter_cons_of_pos hq]
  have : (l.take k).filter q = [] := filter_none fun j hj => by
    rw [List.length_take] at hj
    rw [List.getElem_take]
    exact h j (by omega) (by omega)
  rw [this, List.nil_append]
theorem filter_last {l : List Int} {q : Int → Bool} {k : Nat} (hk : k < l.length) (h : ∀ j (hj : j < l.length), k < j → q l[j] = false) (hq : q l[k] = true) : ∃ r, l.filter q = r ++ [l[k]] := by
  refine ⟨(l.take k).filter q, ?_⟩
  have e : l = l.take k ++ l[k] :: l.drop (k + 1) := by rw [← List.drop_eq_getElem_cons hk, List.take_append_drop]
  conv => lhs; rw [e]
  rw [List.filter_append, List.filter_cons_of_pos hq]
  have : (l.drop (k + 1)).filter q = [] := filter_none fun j hj => by
    rw [List.length_drop] at hj
    rw [List.getElem_drop]
    exact h _ (by omega) (by omega)
  rw [this]
/-- The next one. -/
def nx (l : List Int) (f : Int) : Int := (rd l f).getD 0 0
/-- The one ahead. -/
def pv (l : List Int) (f : Int) : Int := (rd l f).getD (l.length - 1) 0
theorem nx_hit {l : List Int} {f : Int} {k : Nat} (hk : k < l.length) (h : ∀ j (hj : j < l.length), j < k → l[j] < f) (hq : f ≤ l[k]) : nx l f = l[k] := by
  obtain ⟨r, hr⟩ := filter_first (q := fun x => decide (f ≤ x)) hk (fun j hj hjk => decide_eq_false (by have := h j hj hjk; omega)) (decide_eq_true hq)
  unfold nx rd
  rw [hr]; rfl
theorem nx_none {l : List Int} {f : Int} (h : ∀ j (hj : j < l.length), l[j] < f) : nx l f = l.getD 0 0 := by
  unfold nx rd
  rw [filter_none (fun j hj => decide_eq_false (by have := h j hj; omega)), filter_all (fun j hj => decide_eq_true (h j hj)), List.nil_append]
theorem pv_hit {l : List Int} {f : Int} {k : Nat} (hk : k < l.length) (h : ∀ j (hj : j < l.length), k < j → f ≤ l[j]) (hq : l[k] < f) : pv l f = l[k] := by
  obtain ⟨r, hr⟩ := filter_last (q := fun x => decide (x < f)) hk (fun j hj hjk => decide_eq_false (by have := h j hj hjk; omega)) (decide_eq_true hq)
  have hl := rd_len l f
  unfold pv
  rw [← hl]
  unfold rd
  rw [hr, ← List.append_assoc]
  simp
theorem pv_none {l : List Int} {f : Int} (h : ∀ j (hj : j < l.length), f ≤ l[j]) : pv l f = l.getD (l.length - 1) 0 := by
  unfold pv rd
  rw [filter_all (fun j hj => decide_eq_true (h j hj)), filter_none (fun j hj => decide_eq_false (by have := h j hj; omega)), List.append_nil]
def nv (l : List Int) (f : Int) : Int := if l = [] then 0 else nx l f
def pw (l : List Int) (f : Int) : Int := if l = [] then 0 else pv l f
def nc (l : List Int) : Int := if l = [] then 8 else 0
def NQ (v c : Int) (W : World) (e : Ending) (w' : World) : Prop := e = .returned (.tuple #[.int .i64 v, ev c]) ∧ Below W.heap.size W w'
set_option maxRecDepth 100000 in
set_option maxHeartbeats 2000000 in
theorem next_no (s : ByteArray) (f : Int) (W : World) :
    Calls Tryd.prog 57 #[.string s, .string ⟨#[]⟩, .int .i64 f] W (NQ 0 1 W) := by
  have CB := Lib.hid (all_no s)
  go_enter Tryd.func57, Tryd.ntmps57
  go_wp2_with fail
  refine (CB.out _).mono ?_; rintro e w1 ⟨v, rfl, hI, h1⟩
  have H1 := Lib.hid h1
  clear CB h1
  rw [show ev 1 = .iface 23 (.int .i64 1) from rfl]
  go_wp2_with fail
  go_ret2
  exact ⟨rfl, H1.out⟩
set_option maxRecDepth 100000 in
set_option maxHeartbeats 2000000 in
theorem next_yes (s p : ByteArray) (f : Int) (hs : s.size ≤ 1000) (hp1 : 1 ≤ p.size) (hp : p.size ≤ 1000) (W : World) :
    Calls Tryd.prog 57 #[.string s, .string p, .int .i64 f] W (NQ (nv (al s p s.size) f) (nc (al s p s.size)) W) := by
  have CB := Lib.hid (all_yes s p hs hp1 hp)
  have hll := al_len s p s.size
  generalize al s p s.size = l at *
  go_enter Tryd.func57, Tryd.ntmps57
  go_wp2_with fail
  refine (CB.out _).mono ?_; rintro e w1 ⟨v, rfl, hI, h1⟩
  have H1 := Lib.hid h1
  obtain ⟨a, cap, rfl, hc⟩ := hI
  have hcH := Lib.hid hc
  clear CB h1 hc
  rw [show ev 0 = .nilIface from rfl]
  by_cases hl : l = []
  · subst hl
    go_wp2_with fail
    go_ret2
    exact ⟨rfl, H1.out⟩
  · have hl1 : 1 ≤ l.length := by cases l; exact absurd rfl hl; simp
    have hlH := Lib.hid hl
    have b0 : ((l.length : Int) == 0) = false := by rw [beq_eq_false_iff_ne]; omega
    have b1 : (0 : Int) < (l.length : Int) := by omega
    obtain ⟨a0, rfl, hc0⟩ := hcH.out 0 (by omega)
    go_wp2_with fail
    go_loopw [27] (fun i wr => ∃ k : Nat, k ≤ l.length ∧ i = .int .i64 k ∧ Hid (∀ j (hj : j < l.length), j < k → l[j] < f) ∧ wr = w1) (fun i _ => l.length - (intOf i).toNat)
    case atStart => exact ⟨0, by omega, rfl, Lib.hid (fun j hj h => absurd h (Nat.not_lt_zero j)), rfl⟩
    case round =>
      obtain ⟨k, hk, rfl, hM, rfl⟩ := hrel
      by_cases hlt : k < l.length
      · obtain ⟨ad, had, hck⟩ := hcH.out k hlt
        obtain rfl : a0 = ad := Option.some.inj had
        have hxx := Lib.hid (rfl : l[k] = l[k])
        by_cases hq : f ≤ l[k]
        · have hV := Lib.hid (nx_hit hlt hM.out hq)
          generalize l[k] = x at *
          go_wp2_with fail
          go_ret2
          unfold nv nc
          rw [if_neg hlH.out, if_neg hlH.out, hV.out]
          exact ⟨rfl, H1.out⟩
        · have hM2 : Hid (∀ j (hj : j < l.length), j < k + 1 → l[j] < f) := Lib.hid (fun j hj h => by
            rcases Nat.lt_succ_iff_lt_or_eq.1 h with h | rfl
            · exact hM.out j hj h
            · omega)
          generalize l[k] = x at *
          go_wp2_with fail
          go_roundw
          case rel => exact ⟨k + 1, by omega, by go_num, hM2, by first | rfl | trivial⟩
          case measure => simp [intOf]; omega
      · obtain rfl : k = l.length := by omega
        have hV := Lib.hid (nx_none (fun j hj => hM.out j hj hj))
        have e0 : l.getD 0 0 = l[0] := by rw [List.getD_eq_getElem?_getD, List.getElem?_eq_getElem (by omega)]; rfl
        rw [e0] at hV
        have hc1 := hc0
        rw [show a0.add 0 = a0 by first | rfl | (cases a0; rfl) | exact Addr.add_zero _] at hc1
        generalize l[0] = x at *
        go_wp2_with fail
        go_ret2
        unfold nv nc
        rw [if_neg hlH.out, if_neg hlH.out, hV.out]
        exact ⟨rfl, H1.out⟩
def bl (p : ByteArray) : List Int := (List.range p.size).map fun j => bv p (j + 1)
set_option maxRecDepth 100000 in
set_option maxHeartbeats 2000000 in
theorem Borders_any (p : ByteArray) (hp : p.size ≤ 1000) (W : World) :
    Calls Tryd.prog 59 #[.string p] W fun e w' => ∃ v, e = .returned v ∧ Ints w' v (bl p) ∧ Below W.heap.size W w' := by
  have CB := Lib.hid (borders_any p hp)
  have k1 : (1 : Int) ≤ (p.size : Int) + 1 := by omega
  go_enter Tryd.func59, Tryd.ntmps59
  go_wp2_with fail
  refine (CB.out _).mono ?_; rintro e w1 ⟨L, rfl, hT, h1⟩
  have hTH := Lib.hid hT
  have H1 := Lib.hid h1
  clear CB hT h1
  have hI : Hid (Ints w1 (.slice (some ⟨W.heap.size, 1, none⟩) p.size p.size) (bl p)) := Lib.hid ⟨some ⟨W.heap.size, 1, none⟩, p.size, by unfold bl; simp, fun j hj => by
    have hj' : j < p.size := by unfold bl at hj; simpa using hj
    refine ⟨⟨W.heap.size, 1, none⟩, rfl, ?_⟩
    have h := (hTH.out.cell (j + 1) (by omega)).1
    rw [hTH.out.2.2 _ (by omega)] at h
    have e : (bl p)[j] = bv p (j + 1) := by simp [bl]
    rw [e, show (⟨W.heap.size, 1, none⟩ : Addr).add j = ⟨W.heap.size, j + 1, none⟩ by simp [Addr.add, Nat.add_comm]]
    exact h⟩
  go_wp2_with fail
  all_goals
    go_ret
    exact ⟨_, rfl, by first | exact hI.out | exact ⟨_, _, rfl, fun j hj => by simp [bl] at hj⟩, H1.out⟩
end Go.Proofs.YtifnochpmlllgaaDoor.All
