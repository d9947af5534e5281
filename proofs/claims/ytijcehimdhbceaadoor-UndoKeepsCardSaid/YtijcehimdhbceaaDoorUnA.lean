/-
  PROVED HERE: the states of an undo tree: by ways down that are kept (the program) and by times (the document), in plain Lean: both go the same ways. Conditions: as each theorem states.
-/
import Derived.Test.YtijcehimdhbceaaDoorMem
namespace Go.Proofs.YtijcehimdhbceaaDoor.Un
/-- The ways up: a parent stands ahead of its child. -/
def Ups (up : List Int) : Prop := ∀ k (h : k < up.length), -1 ≤ up[k] ∧ up[k] < k
/-- The states from the first one to k, the last one first (fuel: k + 1 is enough). -/
def wayUp (up : List Int) : Nat → Int → List Int
  | 0, _ => []
  | f + 1, k => if k < 0 then [] else k :: wayUp up f (up.getD k.toNat (-1))
def way (up : List Int) (k : Int) : List Int := wayUp up (k.toNat + 1) k
theorem up_lt {up : List Int} (h : Ups up) (k : Nat) : up.getD k (-1) < k ∧ -1 ≤ up.getD k (-1) := by
  by_cases hk : k < up.length
  · rw [List.getD_eq_getElem?_getD, List.getElem?_eq_getElem hk]
    exact ⟨(h k hk).2, (h k hk).1⟩
  · rw [List.getD_eq_getElem?_getD, List.getElem?_eq_none (by omega)]
    exact ⟨by simp; omega, by simp⟩
theorem wayUp_fuel {up : List Int} (h : Ups up) : ∀ (f g : Nat) (k : Int), k < f → k < g → wayUp up f k = wayUp up g k
  | 0, 0, _, _, _ => rfl
  | 0, g + 1, k, h1, _ => by rw [wayUp, wayUp, if_pos (by omega)]
  | f + 1, 0, k, _, h2 => by rw [wayUp, wayUp, if_pos (by omega)]
  | f + 1, g + 1, k, h1, h2 => by
    rw [wayUp, wayUp]
    by_cases hk : k < 0
    · rw [if_pos hk, if_pos hk]
    · rw [if_neg hk, if_neg hk]
      have := (up_lt h k.toNat).1
      rw [wayUp_fuel h f g _ (by omega) (by omega)]
theorem wayUp_len (up : List Int) : ∀ (f : Nat) (k : Int), (wayUp up f k).length ≤ f
  | 0, _ => Nat.le_refl _
  | f + 1, k => by
    rw [wayUp]
    split
    · exact Nat.zero_le _
    · have := wayUp_len up f (up.getD k.toNat (-1))
      rw [List.length_cons]
      omega
theorem way_len (up : List Int) (k : Int) : (way up k).length ≤ k.toNat + 1 := wayUp_len up _ k
theorem way_neg (up : List Int) (k : Int) (h : k < 0) : way up k = [] := by
  unfold way
  rw [wayUp, if_pos h]
theorem way_step {up : List Int} (h : Ups up) (k : Int) (hk : 0 ≤ k) : way up k = k :: way up (up.getD k.toNat (-1)) := by
  unfold way
  rw [wayUp, if_neg (by omega)]
  have := up_lt h k.toNat
  congr 1
  exact wayUp_fuel h _ _ _ (by omega) (by omega)
/-- What is on a way, is its end, or on its parent's. -/
theorem mem_way {up : List Int} (h : Ups up) (k j : Int) (hk : 0 ≤ k) : j ∈ way up k ↔ j = k ∨ j ∈ way up (up.getD k.toNat (-1)) := by
  rw [way_step h k hk, List.mem_cons]
theorem way_le {up : List Int} (h : Ups up) : ∀ (n : Nat) (k : Int), k < n → ∀ j ∈ way up k, 0 ≤ j ∧ j ≤ k
  | 0, k, hn, j, hj => by rw [way_neg up k (by omega)] at hj; cases hj
  | n + 1, k, hn, j, hj => by
    by_cases hk : k < 0
    · rw [way_neg up k hk] at hj; cases hj
    · rw [mem_way h k j (by omega)] at hj
      have := up_lt h k.toNat
      rcases hj with rfl | hj
      · omega
      · have := way_le h n _ (by omega) j hj
        omega
/-- A parent of what is on a way is on it, too. -/
theorem way_up {up : List Int} (h : Ups up) : ∀ (n : Nat) (k : Int), k < n → ∀ j ∈ way up k, 0 ≤ up.getD j.toNat (-1) → up.getD j.toNat (-1) ∈ way up k
  | 0, k, hn, j, hj, _ => by rw [way_neg up k (by omega)] at hj; cases hj
  | n + 1, k, hn, j, hj, h0 => by
    by_cases hk : k < 0
    · rw [way_neg up k hk] at hj; cases hj
    · have := up_lt h k.toNat
      rw [mem_way h k j (by omega)] at hj
      rw [mem_way h k _ (by omega)]
      rcases hj with rfl | hj
      · right
        rw [way_step h _ h0]
        exact List.mem_cons_self
      · right
        exact way_up h n _ (by omega) j hj h0
/-- Of two on a way, the one that stands ahead is on the other's way. -/
theorem way_in {up : List Int} (h : Ups up) : ∀ (n : Nat) (k : Int), k < n → ∀ i ∈ way up k, ∀ j ∈ way up k, i ≤ j → i ∈ way up j
  | 0, k, hn, i, hi, _, _, _ => by rw [way_neg up k (by omega)] at hi; cases hi
  | n + 1, k, hn, i, hi, j, hj, hij => by
    by_cases hk : k < 0
    · rw [way_neg up k hk] at hi; cases hi
    · have := up_lt h k.toNat
      have hi2 := hi
      rw [mem_way h k _ (by omega)] at hi hj
      rcases hj with rfl | hj
      · exact hi2
      · have hj2 := way_le h n _ (by omega) j hj
        rcases hi with rfl | hi
        · omega
        · exact way_in h n _ (by omega) i hi j hj hij
/-- Only one child of a state is on a way. -/
theorem way_one {up : List Int} (h : Ups up) (k i j : Int) (hi : i ∈ way up k) (hj : j ∈ way up k) (e : up.getD i.toNat (-1) = up.getD j.toNat (-1)) : i = j := by
  have hk : k < (k.toNat + 1 : Nat) := by omega
  have bi := way_le h _ k hk i hi
  have bj := way_le h _ k hk j hj
  have key : ∀ a b : Int, a ∈ way up k → b ∈ way up k → 0 ≤ a → 0 ≤ b → up.getD a.toNat (-1) = up.getD b.toNat (-1) → a < b → False := by
    intro a b ha hb a0 b0 hab hlt
    have hin := way_in h _ k hk a ha b hb (by omega)
    rw [mem_way h b a b0] at hin
    rcases hin with rfl | hin
    · omega
    · have hu := up_lt h b.toNat
      have hle := way_le h (b.toNat + 1) _ (by omega) a hin
      have hu2 := up_lt h a.toNat
      rw [hab] at hu2
      omega
  rcases Int.lt_trichotomy i j with h1 | h1 | h1
  · exact (key i j hi hj bi.1 bj.1 e h1).elim
  · exact h1
  · exact (key j i hj hi bj.1 bi.1 e.symm h1).elim
/-- b is, of all children of k, the one of the greatest time, and of those the first. -/
def Best (up : List Int) (time : Nat → Nat) (k b : Int) : Prop :=
  (b = -1 ∧ ∀ i (h : i < up.length), up[i] ≠ k) ∨ (∃ n : Nat, b = n ∧ ∃ h : n < up.length, up[n] = k ∧ ∀ i (hi : i < up.length), up[i] = k → time i ≤ time n ∧ (i < n → time i < time n))
/-- The document's search, from place i on. -/
def seek (up : List Int) (time : Nat → Nat) (k : Int) : Nat → Nat → Int → Int
  | 0, _, b => b
  | f + 1, i, b => seek up time k f (i + 1) (if up.getD i (-2) = k ∧ (b < 0 ∨ time b.toNat < time i) then i else b)
/-- What the search holds behind the first m. -/
def Sofar (up : List Int) (time : Nat → Nat) (k : Int) (m : Nat) (b : Int) : Prop :=
  (b = -1 ∧ ∀ i (h : i < up.length), i < m → up[i] ≠ k) ∨ (∃ n : Nat, b = n ∧ n < m ∧ ∃ h : n < up.length, up[n] = k ∧ ∀ i (hi : i < up.length), i < m → up[i] = k → time i ≤ time n ∧ (i < n → time i < time n))
theorem sofar_next {up : List Int} {time : Nat → Nat} {k : Int} {m : Nat} {b : Int} (h : Sofar up time k m b) (hm : m < up.length) : Sofar up time k (m + 1) (if up[m] = k ∧ (b < 0 ∨ time b.toNat < time m) then m else b) := by
  rcases h with ⟨rfl, h⟩ | ⟨n, rfl, hn, hnl, hk, h⟩
  · by_cases hc : up[m] = k
    · rw [if_pos ⟨hc, .inl (by omega)⟩]
      refine .inr ⟨m, rfl, by omega, hm, hc, fun i hi him hik => ?_⟩
      rcases Nat.lt_succ_iff_lt_or_eq.1 him with h1 | rfl
      · exact absurd hik (h i hi h1)
      · exact ⟨Nat.le_refl _, fun h => absurd h (Nat.lt_irrefl _)⟩
    · rw [if_neg (fun x => hc x.1)]
      refine .inl ⟨rfl, fun i hi him => ?_⟩
      rcases Nat.lt_succ_iff_lt_or_eq.1 him with h1 | rfl
      · exact h i hi h1
      · exact hc
  · rw [show (n : Int).toNat = n from Int.toNat_natCast n]
    by_cases hc : up[m] = k ∧ time n < time m
    · rw [if_pos ⟨hc.1, .inr hc.2⟩]
      refine .inr ⟨m, rfl, by omega, hm, hc.1, fun i hi him hik => ?_⟩
      rcases Nat.lt_succ_iff_lt_or_eq.1 him with h1 | rfl
      · have := (h i hi h1 hik).1
        exact ⟨by omega, fun _ => by omega⟩
      · exact ⟨Nat.le_refl _, fun h => absurd h (Nat.lt_irrefl _)⟩
    · rw [if_neg (fun x => hc ⟨x.1, x.2.resolve_left (by omega)⟩)]
      refine .inr ⟨n, rfl, by omega, hnl, hk, fun i hi him hik => ?_⟩
      rcases Nat.lt_succ_iff_lt_or_eq.1 him with h1 | rfl
      · exact h i hi h1 hik
      · have : ¬ time n < time i := fun x => hc ⟨hik, x⟩
        exact ⟨by omega, fun h => by omega⟩
theorem sofar_zero (up : List Int) (time : Nat → Nat) (k : Int) : Sofar up time k 0 (-1) := .inl ⟨rfl, fun _ _ h => absurd h (Nat.not_lt_zero _)⟩
theorem sofar_all {up : List Int} {time : Nat → Nat} {k b : Int} (h : Sofar up time k up.length b) : Best up time k b := by
  rcases h with ⟨h1, h2⟩ | ⟨n, h1, _, h3, h4, h5⟩
  · exact .inl ⟨h1, fun i hi => h2 i hi hi⟩
  · exact .inr ⟨n, h1, h3, h4, fun i hi => h5 i hi hi⟩
theorem best_one {up : List Int} {time : Nat → Nat} {k b c : Int} (h1 : Best up time k b) (h2 : Best up time k c) : b = c := by
  rcases h1 with ⟨rfl, h1⟩ | ⟨n, rfl, hn, hk, h1⟩
  · rcases h2 with ⟨rfl, _⟩ | ⟨m, rfl, hm, hk, _⟩
    · rfl
    · exact absurd hk (h1 m hm)
  · rcases h2 with ⟨rfl, h2⟩ | ⟨m, rfl, hm, hk2, h2⟩
    · exact absurd hk (h2 n hn)
    · have a := h1 m hm hk2
      have b := h2 n hn hk
      rcases Nat.lt_trichotomy n m with h | h | h
      · have := b.2 h; omega
      · rw [h]
      · have := a.2 h; omega
/-- The times behind a mark of the way to k. -/
def marked (up : List Int) (time : Nat → Nat) (t : Nat) (k : Int) (i : Nat) : Nat := if (i : Int) ∈ way up k then t else time i
/-- What both trees hold: the program's ways down are the document's best ones; all on the way to the state that is now are their parents' ways down. -/
structure Inv (up down : List Int) (time : Nat → Nat) (now t : Nat) : Prop where
  ups : Ups up
  len : down.length = up.length
  inb : now < up.length
  le : ∀ i, time i ≤ t
  best : ∀ k (h : k < down.length), Best up time k down[k]
  wy : ∀ j : Nat, (j : Int) ∈ Un.way up now → ∀ p : Nat, up.getD j (-1) = p → down.getD p (-1) = j
/-- A mark of the way changes no way down. -/
theorem mark_best {up down : List Int} {time : Nat → Nat} {now t : Nat} (h : Inv up down time now t) : Inv up down (marked up time (t + 1) now) now (t + 1) := by
  have hT : ∀ i, marked up time (t + 1) now i ≤ t + 1 := fun i => by
    unfold marked
    have := h.le i
    split <;> omega
  refine ⟨h.ups, h.len, h.inb, hT, fun k hk => ?_, h.wy⟩
  have hb := h.best k hk
  have gd : ∀ i (hi : i < up.length), up.getD i (-1) = up[i] := fun i hi => by rw [List.getD_eq_getElem?_getD, List.getElem?_eq_getElem hi]; rfl
  by_cases hc : ∃ j : Nat, (j : Int) ∈ Un.way up now ∧ j < up.length ∧ up.getD j (-1) = k
  · obtain ⟨j, hj, hjl, hjk⟩ := hc
    have hd := h.wy j hj k hjk
    rw [List.getD_eq_getElem?_getD, List.getElem?_eq_getElem hk] at hd
    simp only [Option.getD_some] at hd
    rw [hd]
    have mj : marked up time (t + 1) now j = t + 1 := by unfold marked; rw [if_pos hj]
    refine .inr ⟨j, rfl, hjl, by rw [← gd j hjl]; exact hjk, fun i hi hik => ?_⟩
    rw [mj]
    refine ⟨hT i, fun hij => ?_⟩
    have : ¬ (i : Int) ∈ Un.way up now := fun hm => by
      have := way_one h.ups now i j hm hj (by simp only [Int.toNat_natCast]; rw [gd i hi, hik, hjk])
      omega
    unfold marked
    rw [if_neg this]
    have := h.le i
    omega
  · have same : ∀ i (hi : i < up.length), up[i] = (k : Int) → marked up time (t + 1) now i = time i := fun i hi hik => by
      unfold marked
      rw [if_neg (fun hm => hc ⟨i, hm, hi, by rw [gd i hi]; exact hik⟩)]
    rcases hb with ⟨h1, h2⟩ | ⟨n, h1, h2, h3, h4⟩
    · exact .inl ⟨h1, h2⟩
    · refine .inr ⟨n, h1, h2, h3, fun i hi hik => ?_⟩
      rw [same i hi hik, same n h2 h3]
      exact h4 i hi hik
theorem gdl (l : List Int) (i : Nat) (d : Int) (h : i < l.length) : l.getD i d = l[i] := by rw [List.getD_eq_getElem?_getD, List.getElem?_eq_getElem h]; rfl
/-- Redo: the way down is the document's best one; the invariant behind it. -/
theorem redo_inv {up down : List Int} {time : Nat → Nat} {now t : Nat} (h : Inv up down time now t) (d : Nat) (hd : down.getD now (-1) = d) : Inv up down time d t := by
  have hn : now < down.length := by rw [h.len]; exact h.inb
  rw [gdl down now _ hn] at hd
  rcases h.best now hn with ⟨h1, _⟩ | ⟨n, h1, h2, h3, _⟩
  · omega
  · obtain rfl : d = n := by omega
    refine ⟨h.ups, h.len, h2, h.le, h.best, fun j hj p hp => ?_⟩
    rw [mem_way h.ups _ _ (by omega), Int.toNat_natCast, gdl up d _ h2, h3] at hj
    rcases hj with hj | hj
    · obtain rfl : j = d := by omega
      rw [gdl up j _ h2, h3] at hp
      obtain rfl : now = p := by omega
      rw [gdl down now _ hn]
      exact hd
    · exact h.wy j hj p hp
/-- Undo: the way to the parent is marked already. -/
theorem undo_inv {up down : List Int} {time : Nat → Nat} {now t : Nat} (h : Inv up down time now t) (p : Nat) (hp : up.getD now (-1) = p) : Inv up (down.set p now) (marked up time (t + 1) now) p (t + 1) := by
  have hm := mark_best h
  have hd := h.wy now (by rw [way_step h.ups _ (by omega)]; exact List.mem_cons_self) p hp
  have hpl : p < up.length := by
    have := (up_lt h.ups now).1
    have := h.inb
    omega
  have same : down.set p (now : Int) = down := by
    apply List.ext_getElem
    · simp
    · intro i h1 h2
      rw [List.getElem_set]
      split
      · rename_i e
        subst e
        rw [← hd, gdl down p _ h2]
      · rfl
  rw [same]
  refine ⟨h.ups, h.len, hpl, hm.le, hm.best, fun j hj q hq => ?_⟩
  refine h.wy j ?_ q hq
  rw [mem_way h.ups _ _ (by omega), Int.toNat_natCast, hp]
  exact .inr hj
/-- A mark makes all right but what has no child on the way. -/
theorem mark_gen {up down : List Int} {time : Nat → Nat} {now t : Nat} (ups : Ups up) (len : down.length = up.length) (inb : now < up.length) (le : ∀ i, time i ≤ t)
    (hb : ∀ k (h : k < down.length), (∀ j : Nat, (j : Int) ∈ Un.way up now → j < up.length → up.getD j (-1) ≠ k) → Best up time k down[k])
    (wy : ∀ j : Nat, (j : Int) ∈ Un.way up now → ∀ p : Nat, up.getD j (-1) = p → down.getD p (-1) = j) : Inv up down (marked up time (t + 1) now) now (t + 1) := by
  have hT : ∀ i, marked up time (t + 1) now i ≤ t + 1 := fun i => by
    unfold marked
    have := le i
    split <;> omega
  refine ⟨ups, len, inb, hT, fun k hk => ?_, wy⟩
  have gd : ∀ i (hi : i < up.length), up.getD i (-1) = up[i] := fun i hi => gdl up i _ hi
  by_cases hc : ∃ j : Nat, (j : Int) ∈ Un.way up now ∧ j < up.length ∧ up.getD j (-1) = k
  · obtain ⟨j, hj, hjl, hjk⟩ := hc
    have hd := wy j hj k hjk
    rw [gdl down k _ hk] at hd
    rw [hd]
    have mj : marked up time (t + 1) now j = t + 1 := by unfold marked; rw [if_pos hj]
    refine .inr ⟨j, rfl, hjl, by rw [← gd j hjl]; exact hjk, fun i hi hik => ?_⟩
    rw [mj]
    refine ⟨hT i, fun hij => ?_⟩
    have : ¬ (i : Int) ∈ Un.way up now := fun hm => by
      have := way_one ups now i j hm hj (by simp only [Int.toNat_natCast]; rw [gd i hi, hik, hjk])
      omega
    unfold marked
    rw [if_neg this]
    have := le i
    omega
  · have same : ∀ i (hi : i < up.length), up[i] = (k : Int) → marked up time (t + 1) now i = time i := fun i hi hik => by
      unfold marked
      rw [if_neg (fun hm => hc ⟨i, hm, hi, by rw [gd i hi]; exact hik⟩)]
    rcases hb k hk (fun j hj hjl e => hc ⟨j, hj, hjl, e⟩) with ⟨h1, h2⟩ | ⟨n, h1, h2, h3, h4⟩
    · exact .inl ⟨h1, h2⟩
    · refine .inr ⟨n, h1, h2, h3, fun i hi hik => ?_⟩
      rw [same i hi hik, same n h2 h3]
      exact h4 i hi hik
theorem wayUp_app {up : List Int} (h : Ups up) (x : Int) : ∀ (f : Nat) (k : Int), k < up.length → wayUp (up ++ [x]) f k = wayUp up f k
  | 0, _, _ => rfl
  | f + 1, k, hk => by
    rw [wayUp, wayUp]
    by_cases h0 : k < 0
    · rw [if_pos h0, if_pos h0]
    · rw [if_neg h0, if_neg h0]
      have e : (up ++ [x]).getD k.toNat (-1) = up.getD k.toNat (-1) := by
        rw [List.getD_eq_getElem?_getD, List.getElem?_append_left (by omega), ← List.getD_eq_getElem?_getD]
      rw [e]
      have := up_lt h k.toNat
      rw [wayUp_app h x f _ (by omega)]
theorem way_app {up : List Int} (h : Ups up) (x k : Int) (hk : k < up.length) : way (up ++ [x]) k = way up k := wayUp_app h x _ k hk
theorem app_at (up : List Int) (x : Int) (i : Nat) (h : i < up.length) : (up ++ [x]).getD i (-1) = up.getD i (-1) := by
  rw [List.getD_eq_getElem?_getD, List.getElem?_append_left h, ← List.getD_eq_getElem?_getD]
theorem app_end (up : List Int) (x : Int) : (up ++ [x]).getD up.length (-1) = x := by
  rw [List.getD_eq_getElem?_getD, List.getElem?_append_right (Nat.le_refl _)]
  simp
theorem ups_app {up : List Int} (h : Ups up) (x : Int) (h1 : -1 ≤ x) (h2 : x < up.length) : Ups (up ++ [x]) := by
  intro k hk
  rw [List.length_append, List.length_singleton] at hk
  by_cases hl : k < up.length
  · rw [List.getElem_append_left hl]
    exact h k hl
  · obtain rfl : k = up.length := by omega
    rw [List.getElem_append_right (Nat.le_refl _)]
    simp only [Nat.sub_self, List.getElem_cons_zero]
    exact ⟨h1, h2⟩
/-- Add. -/
theorem add_inv {up down : List Int} {time : Nat → Nat} {now t : Nat} (h : Inv up down time now t) :
    Inv (up ++ [(now : Int)]) ((down ++ [-1]).set now up.length) (marked (up ++ [(now : Int)]) time (t + 1) up.length) up.length (t + 1) := by
  have hi := h.inb
  have hl := h.len
  have U := ups_app h.ups now (by omega) (by omega)
  have W : ∀ j : Int, j ∈ way (up ++ [(now : Int)]) (up.length : Nat) ↔ j = (up.length : Nat) ∨ j ∈ way up now := fun j => by
    rw [mem_way U _ _ (by omega), Int.toNat_natCast, app_end, way_app h.ups _ _ (by omega)]
  have wl : ∀ j ∈ way up now, 0 ≤ j ∧ j ≤ now := way_le h.ups (now + 1) _ (by omega)
  refine mark_gen U (by simp [hl]) (by simp) h.le (fun k hk hno => ?_) (fun j hj p hp => ?_)
  · have hkn : k ≠ now := fun e => by
      subst e
      refine hno up.length ((W _).2 (.inl rfl)) (by simp) ?_
      rw [app_end]
    rw [List.length_set, List.length_append, List.length_singleton] at hk
    rw [List.getElem_set_ne (by omega)]
    by_cases hkl : k < down.length
    · rw [List.getElem_append_left hkl]
      have nc : ∀ i (hi : i < (up ++ [(now : Int)]).length), (up ++ [(now : Int)])[i] = (k : Int) → ∃ h2 : i < up.length, up[i] = (k : Int) := fun i hi e => by
        by_cases h2 : i < up.length
        · rw [List.getElem_append_left h2] at e
          exact ⟨h2, e⟩
        · rw [List.getElem_append_right (by omega)] at e
          simp at e
          omega
      rcases h.best k hkl with ⟨h1, h2⟩ | ⟨n, h1, h2, h3, h4⟩
      · exact .inl ⟨h1, fun i hi e => by obtain ⟨a, b⟩ := nc i hi e; exact h2 i a b⟩
      · refine .inr ⟨n, h1, by simp; omega, by rw [List.getElem_append_left h2]; exact h3, fun i hi e => ?_⟩
        obtain ⟨a, b⟩ := nc i hi e
        exact h4 i a b
    · obtain rfl : k = down.length := by omega
      rw [List.getElem_append_right (Nat.le_refl _)]
      refine .inl ⟨by simp, fun i hi e => ?_⟩
      have := (U i hi).2
      rw [List.length_append, List.length_singleton] at hi
      omega
  · rw [W] at hj
    rcases hj with hj | hj
    · obtain rfl : j = up.length := by omega
      rw [app_end] at hp
      obtain rfl : now = p := by omega
      rw [gdl _ _ _ (by simp; omega), List.getElem_set_self]
    · have := wl j hj
      rw [app_at _ _ _ (by omega)] at hp
      have hu := (up_lt h.ups j).1
      have hd := h.wy j hj p hp
      rw [gdl _ _ _ (by simp; omega), List.getElem_set_ne (by omega), List.getElem_append_left (by omega), ← gdl down p (-1) (by omega)]
      exact hd
/-- What Go has done of the ways down, when it stands at k. -/
structure Gone (up down : List Int) (n k : Nat) (D : List Int) : Prop where
  len : D.length = down.length
  yes : ∀ j : Nat, (j : Int) ∈ way up n → k < j → ∀ p : Nat, up.getD j (-1) = p → D.getD p (-1) = j
  no : ∀ i : Nat, (∀ j : Nat, (j : Int) ∈ way up n → k < j → up.getD j (-1) ≠ i) → D.getD i (-1) = down.getD i (-1)
theorem gone_start {up : List Int} (h : Ups up) (down : List Int) (n : Nat) : Gone up down n n down := by
  refine ⟨rfl, fun j hj hlt => ?_, fun i _ => rfl⟩
  have := way_le h (n + 1) _ (by omega) _ hj
  omega
theorem gone_next {up down D : List Int} {n k p : Nat} (h : Ups up) (hl : down.length = up.length) (hk : (k : Int) ∈ way up n) (hp : up.getD k (-1) = p) (g : Gone up down n k D) : Gone up down n p (D.set p k) ∧ (p : Int) ∈ way up n := by
  have hpk := (up_lt h k).1
  have hpn := way_le h (n + 1) _ (by omega) _ hk
  have hin : (p : Int) ∈ way up n := by
    have := way_up h (n + 1) _ (by omega) _ hk (by rw [Int.toNat_natCast, hp]; omega)
    rwa [Int.toNat_natCast, hp] at this
  have btw : ∀ j : Nat, (j : Int) ∈ way up n → p < j → j = k ∨ k < j := fun j hj hpj => by
    rcases Nat.lt_trichotomy j k with h1 | h1 | h1
    · have := way_in h (n + 1) _ (by omega) j hj k hk (by omega)
      rw [mem_way h _ _ (by omega), Int.toNat_natCast, hp] at this
      rcases this with h2 | h2
      · omega
      · have := way_le h (p + 1) _ (by omega) _ h2
        omega
    · exact .inl h1
    · exact .inr h1
  have hpl : p < D.length ∨ D.length ≤ p := by omega
  refine ⟨⟨by rw [List.length_set]; exact g.len, fun j hj hpj q hq => ?_, fun i hi => ?_⟩, hin⟩
  · rcases btw j hj hpj with rfl | hkj
    · obtain rfl : p = q := by omega
      rcases hpl with hpl | hpl
      · rw [gdl _ _ _ (by simp; exact hpl), List.getElem_set_self]
      · exfalso
        have : up.getD j (-1) = -1 := by rw [List.getD_eq_getElem?_getD, List.getElem?_eq_none (by rw [← hl, ← g.len]; omega)]; rfl
        omega
    · have := g.yes j hj hkj q hq
      by_cases e : q = p
      · subst e
        have := way_one h n j k hj hk (by simp only [Int.toNat_natCast]; rw [hq, hp])
        omega
      · rw [List.getD_eq_getElem?_getD, List.getElem?_set_ne (by omega), ← List.getD_eq_getElem?_getD]
        exact this
  · have e : i ≠ p := fun e => by
      subst e
      exact hi k hk (by omega) hp
    rw [List.getD_eq_getElem?_getD, List.getElem?_set_ne (by omega), ← List.getD_eq_getElem?_getD]
    exact g.no i (fun j hj hkj => hi j hj (by omega))
/-- Go. -/
theorem go_inv {up down D : List Int} {time : Nat → Nat} {now t n k : Nat} (h : Inv up down time now t) (hn : n < up.length) (hk : (k : Int) ∈ way up n) (he : up.getD k (-1) < 0) (g : Gone up down n k D) : Inv up D (marked up time (t + 1) n) n (t + 1) := by
  have first : ∀ j : Nat, (j : Int) ∈ way up n → ∀ p : Nat, up.getD j (-1) = p → k < j := fun j hj p hp => by
    rcases Nat.lt_trichotomy j k with h1 | h1 | h1
    · have := way_in h.ups (n + 1) _ (by omega) j hj k hk (by omega)
      rw [mem_way h.ups _ _ (by omega), Int.toNat_natCast, way_neg _ _ he] at this
      rcases this with h2 | h2
      · omega
      · cases h2
    · subst h1; omega
    · exact h1
  refine mark_gen h.ups (by rw [g.len, h.len]) hn h.le (fun i hi hno => ?_) (fun j hj p hp => g.yes j hj (first j hj p hp) p hp)
  have hil : i < down.length := by rw [← g.len]; exact hi
  have := g.no i (fun j hj _ e => hno j hj (by
    have := way_le h.ups (n + 1) _ (by omega) _ hj
    omega) e)
  rw [gdl D i _ hi, gdl down i _ hil] at this
  rw [this]
  exact h.best i hil
/-- At first. -/
theorem inv_start : Inv [-1] [-1] (fun _ => 0) 0 0 := by
  refine ⟨fun k hk => ?_, rfl, by decide, fun _ => Nat.le_refl _, fun k hk => .inl ⟨?_, fun i hi => ?_⟩, fun j hj p hp => ?_⟩
  · obtain rfl : k = 0 := by simpa using hk
    simp
  · obtain rfl : k = 0 := by simpa using hk
    rfl
  · obtain rfl : i = 0 := by simpa using hi
    simp
  · have : j = 0 ∨ 0 < j := by omega
    rcases this with rfl | h
    · simp at hp
    · exfalso
      rw [List.getD_eq_getElem?_getD, List.getElem?_eq_none (by simp; omega)] at hp
      simp at hp
end Go.Proofs.YtijcehimdhbceaaDoor.Un
