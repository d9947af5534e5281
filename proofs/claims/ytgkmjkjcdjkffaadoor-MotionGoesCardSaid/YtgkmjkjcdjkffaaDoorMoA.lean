/-
  PROVED HERE: where motions go, in plain Lean: the first of some places behind one, and ahead of one, round about and not; both ways of looking for it find the same. Conditions: as each theorem states.
-/
import Derived.Test.YtgkmjkjcdjkffaaDoorMem
namespace Go.Proofs.YtgkmjkjcdjkffaaDoor.Mo
/-- A place that is there. -/
def bnd (L n : Int) : Int := max 0 (min n (max (L - 1) 0))
/-- The k-th byte that is c, from place i on. -/
def fnd (s : ByteArray) (c : Nat) : Nat → Nat → Nat → Option Nat
  | 0, _, _ => none
  | f + 1, i, k => if byteAt s i = c then (if k ≤ 1 then some i else fnd s c f (i + 1) (k - 1)) else fnd s c f (i + 1) k
def fs (s : ByteArray) (c i k : Nat) : Option Nat := fnd s c (s.size - i) i k
theorem fs_end {s : ByteArray} {c i k : Nat} (h : s.size ≤ i) : fs s c i k = none := by
  unfold fs; rw [Nat.sub_eq_zero_of_le h]; rfl
theorem fs_hit {s : ByteArray} {c i k : Nat} (h : i < s.size) (hc : byteAt s i = c) (hk : k ≤ 1) : fs s c i k = some i := by
  unfold fs
  rw [show s.size - i = (s.size - (i + 1)) + 1 by omega, fnd, if_pos hc, if_pos hk]
theorem fs_more {s : ByteArray} {c i k : Nat} (h : i < s.size) (hc : byteAt s i = c) (hk : 1 < k) : fs s c i k = fs s c (i + 1) (k - 1) := by
  unfold fs
  rw [show s.size - i = (s.size - (i + 1)) + 1 by omega, fnd, if_pos hc, if_neg (by omega)]
theorem fs_no {s : ByteArray} {c i k : Nat} (h : i < s.size) (hc : byteAt s i ≠ c) : fs s c i k = fs s c (i + 1) k := by
  unfold fs
  rw [show s.size - i = (s.size - (i + 1)) + 1 by omega, fnd, if_neg hc]
/-- Behind a place, or ahead of it. -/
def side (on : Bool) (a x : Int) : Prop := if on = true then a < x else x < a
def lead (on : Bool) (t x : Int) : Prop := if on = true then t ≤ x else x ≤ t
instance (on : Bool) (a x : Int) : Decidable (side on a x) := by unfold side; infer_instance
theorem side_t (a x : Int) : side true a x ↔ a < x := by simp [side]
theorem side_f (a x : Int) : side false a x ↔ x < a := by simp [side]
theorem lead_t (a x : Int) : lead true a x ↔ a ≤ x := by simp [lead]
theorem lead_f (a x : Int) : lead false a x ↔ x ≤ a := by simp [lead]
/-- The nearest of some places on a side, -1: none. -/
def PX (on : Bool) (ps : List Int) (a t : Int) : Prop :=
  (t = -1 ∧ ∀ x ∈ ps, ¬ side on a x) ∨ (t ∈ ps ∧ side on a t ∧ ∀ x ∈ ps, side on a x → lead on t x)
theorem px_one {on : Bool} {ps : List Int} {a t u : Int} (h0 : ∀ x ∈ ps, 0 ≤ x) (h : PX on ps a t) (g : PX on ps a u) : t = u := by
  rcases h with ⟨rfl, h1⟩ | ⟨h1, h2, h3⟩
  · rcases g with ⟨rfl, _⟩ | ⟨g1, g2, _⟩
    · rfl
    · exact absurd g2 (h1 _ g1)
  · rcases g with ⟨rfl, g1⟩ | ⟨g1, g2, g3⟩
    · exact absurd h2 (g1 _ h1)
    · have a1 := h3 _ g1 g2
      have a2 := g3 _ h1 h2
      cases on
      · rw [lead_f] at a1 a2; omega
      · rw [lead_t] at a1 a2; omega
open Classical in
noncomputable def nx (on : Bool) (ps : List Int) (a : Int) : Int := if h : ∃ t, PX on ps a t then h.choose else -1
theorem nx_is {on : Bool} {ps : List Int} {a t : Int} (h0 : ∀ x ∈ ps, 0 ≤ x) (h : PX on ps a t) : nx on ps a = t := by
  have hex : ∃ t, PX on ps a t := ⟨t, h⟩
  unfold nx
  rw [dif_pos hex]
  exact px_one h0 hex.choose_spec h
theorem px_bound {on : Bool} {ps : List Int} {a t L : Int} (h0 : ∀ x ∈ ps, 0 ≤ x ∧ x ≤ L) (h : PX on ps a t) (hL : 0 ≤ L) : -1 ≤ t ∧ t ≤ L := by
  rcases h with ⟨rfl, _⟩ | ⟨h1, _⟩
  · omega
  · have := h0 _ h1; omega
theorem px_snoc {on : Bool} {l : List Int} {a t x : Int} (h0 : ∀ y ∈ l, 0 ≤ y) (h : PX on l a t) : (side on a x ∧ (t < 0 ∨ ¬ lead on t x) → PX on (l ++ [x]) a x) ∧ (¬ (side on a x ∧ (t < 0 ∨ ¬ lead on t x)) → PX on (l ++ [x]) a t) := by
  constructor
  · rintro ⟨h1, h2⟩
    refine .inr ⟨by simp, h1, fun y hy hs => ?_⟩
    rcases List.mem_append.1 hy with hy | hy
    · rcases h with ⟨rfl, g⟩ | ⟨g1, g2, g3⟩
      · exact absurd hs (g y hy)
      · have := g3 y hy hs
        have := h0 _ g1
        rcases h2 with h2 | h2
        · omega
        · cases on
          · rw [lead_f] at *; omega
          · rw [lead_t] at *; omega
    · obtain rfl := List.mem_singleton.1 hy
      cases on
      · rw [lead_f]; omega
      · rw [lead_t]; omega
  · intro hn
    rcases h with ⟨rfl, g⟩ | ⟨g1, g2, g3⟩
    · refine .inl ⟨rfl, fun y hy hs => ?_⟩
      rcases List.mem_append.1 hy with hy | hy
      · exact g y hy hs
      · obtain rfl := List.mem_singleton.1 hy
        exact hn ⟨hs, .inl (by decide)⟩
    · refine .inr ⟨List.mem_append.2 (.inl g1), g2, fun y hy hs => ?_⟩
      rcases List.mem_append.1 hy with hy | hy
      · exact g3 y hy hs
      · obtain rfl := List.mem_singleton.1 hy
        exact Classical.byContradiction fun c => hn ⟨hs, .inr c⟩
theorem px_nil (on : Bool) (a : Int) : PX on [] a (-1) := .inl ⟨rfl, fun _ h => by cases h⟩
theorem take_snoc (l : List Int) (k : Nat) (h : k < l.length) : l.take (k + 1) = l.take k ++ [l[k]] := by
  rw [List.take_add_one, List.getElem?_eq_getElem h]; rfl
theorem mem_of_take {l : List Int} {k : Nat} {x : Int} (h : x ∈ l.take k) : x ∈ l := List.mem_of_mem_take h
/-- The document's way: place by place; seen are those from the far end. -/
def seen (on : Bool) (L : Nat) (i : Nat) (x : Int) : Prop := if on = true then (L : Int) - i < x else x < i
def jx (on : Bool) (L i : Nat) : Int := if on = true then (L : Int) - i else i
def DX (on : Bool) (ps : List Int) (L : Nat) (a : Int) (i : Nat) (t : Int) : Prop :=
  (t = -1 ∧ ∀ x ∈ ps, side on a x → ¬ seen on L i x) ∨ (t ∈ ps ∧ side on a t ∧ seen on L i t ∧ ∀ x ∈ ps, side on a x → seen on L i x → lead on t x)
theorem dx_zero {on : Bool} {ps : List Int} {L : Nat} {a : Int} (h0 : ∀ x ∈ ps, 0 ≤ x ∧ x ≤ L) : DX on ps L a 0 (-1) := by
  refine .inl ⟨rfl, fun x hx _ hs => ?_⟩
  have := h0 x hx
  unfold seen at hs
  cases on <;> simp at hs <;> omega
theorem dx_yes {on : Bool} {ps : List Int} {L : Nat} {a : Int} {i : Nat} {t : Int} (h : DX on ps L a i t) (hm : jx on L i ∈ ps) (hs : side on a (jx on L i)) : DX on ps L a (i + 1) (jx on L i) := by
  refine .inr ⟨hm, hs, ?_, fun x hx h1 h2 => ?_⟩
  · unfold seen jx; cases on <;> simp <;> omega
  · unfold seen at h2; unfold lead jx
    cases on <;> simp at h2 ⊢ <;> omega
theorem dx_no {on : Bool} {ps : List Int} {L : Nat} {a : Int} {i : Nat} {t : Int} (h : DX on ps L a i t) (hn : ¬ (jx on L i ∈ ps ∧ side on a (jx on L i))) : DX on ps L a (i + 1) t := by
  have key : ∀ x, seen on L (i + 1) x → x = jx on L i ∨ seen on L i x := by
    intro x hx
    unfold seen at *; unfold jx
    cases on <;> simp at * <;> omega
  have mono : ∀ x, seen on L i x → seen on L (i + 1) x := by
    intro x hx
    unfold seen at *
    cases on <;> simp at * <;> omega
  rcases h with ⟨rfl, g⟩ | ⟨g1, g2, g3, g4⟩
  · refine .inl ⟨rfl, fun x hx hs h2 => ?_⟩
    rcases key x h2 with rfl | h3
    · exact hn ⟨hx, hs⟩
    · exact g x hx hs h3
  · refine .inr ⟨g1, g2, mono _ g3, fun x hx hs h2 => ?_⟩
    rcases key x h2 with rfl | h3
    · exact absurd ⟨hx, hs⟩ hn
    · exact g4 x hx hs h3
theorem dx_end {on : Bool} {ps : List Int} {L : Nat} {a t : Int} (h0 : ∀ x ∈ ps, 0 ≤ x ∧ x ≤ L) (h : DX on ps L a (L + 1) t) : nx on ps a = t := by
  refine nx_is (fun x hx => (h0 x hx).1) ?_
  have all : ∀ x ∈ ps, seen on L (L + 1) x := fun x hx => by
    have := h0 x hx
    unfold seen
    cases on <;> simp <;> omega
  rcases h with ⟨rfl, g⟩ | ⟨g1, g2, _, g4⟩
  · exact .inl ⟨rfl, fun x hx hs => g x hx hs (all x hx)⟩
  · exact .inr ⟨g1, g2, fun x hx hs => g4 x hx hs (all x hx)⟩
/-- So many times. -/
noncomputable def pt (on : Bool) (ps : List Int) : Nat → Int → Option Int
  | 0, a => some a
  | k + 1, a => if nx on ps a < 0 then none else pt on ps k (nx on ps a)
/-- Round about. -/
def NT (on : Bool) (l : List Int) (a t : Int) : Prop :=
  t ∈ l ∧ ((side on a t ∧ ∀ x ∈ l, side on a x → lead on t x) ∨ ((∀ x ∈ l, ¬ side on a x) ∧ ∀ x ∈ l, lead on t x))
theorem nt_one {on : Bool} {l : List Int} {a t u : Int} (h : NT on l a t) (g : NT on l a u) : t = u := by
  have k : lead on t u ∧ lead on u t := by
    obtain ⟨h1, h2⟩ := h
    obtain ⟨g1, g2⟩ := g
    rcases h2 with ⟨h2, h3⟩ | ⟨h2, h3⟩
    · rcases g2 with ⟨g2, g3⟩ | ⟨g2, g3⟩
      · exact ⟨h3 _ g1 g2, g3 _ h1 h2⟩
      · exact absurd h2 (g2 _ h1)
    · rcases g2 with ⟨g2, g3⟩ | ⟨g2, g3⟩
      · exact absurd g2 (h2 _ g1)
      · exact ⟨h3 _ g1, g3 _ h1⟩
  cases on
  · rw [lead_f, lead_f] at k; omega
  · rw [lead_t, lead_t] at k; omega
open Classical in
noncomputable def nt (on : Bool) (l : List Int) (a : Int) : Int := if h : ∃ t, NT on l a t then h.choose else -1
theorem nt_is {on : Bool} {l : List Int} {a t : Int} (h : NT on l a t) : nt on l a = t := by
  have hex : ∃ t, NT on l a t := ⟨t, h⟩
  unfold nt
  rw [dif_pos hex]
  exact nt_one hex.choose_spec h
/-- Rising places. -/
def Ris (l : List Int) : Prop := ∀ i j (hi : i < l.length) (hj : j < l.length), i < j → l[i] < l[j]
theorem ris_le {l : List Int} (h : Ris l) {i j : Nat} (hi : i < l.length) (hj : j < l.length) (hij : i ≤ j) : l[i] ≤ l[j] := by
  by_cases e : i = j
  · subst e; exact Int.le_refl _
  · exact Int.le_of_lt (h i j hi hj (by omega))
theorem on_hit {l : List Int} {a : Int} (hr : Ris l) (k : Nat) (hk : k < l.length) (hn : ∀ j (hj : j < l.length), j < k → ¬ a < l[j]) (h : a < l[k]) : NT true l a l[k] := by
  refine ⟨List.getElem_mem hk, .inl ⟨by rw [side_t]; exact h, fun x hx hs => ?_⟩⟩
  obtain ⟨j, hj, rfl⟩ := List.getElem_of_mem hx
  rw [side_t] at hs
  rw [lead_t]
  by_cases c : j < k
  · exact absurd hs (hn j hj c)
  · exact ris_le hr hk hj (by omega)
theorem on_end {l : List Int} {a : Int} (hr : Ris l) (h0 : 0 < l.length) (hn : ∀ j (hj : j < l.length), ¬ a < l[j]) : NT true l a l[0] := by
  refine ⟨List.getElem_mem h0, .inr ⟨fun x hx => ?_, fun x hx => ?_⟩⟩
  · obtain ⟨j, hj, rfl⟩ := List.getElem_of_mem hx
    rw [side_t]; exact hn j hj
  · obtain ⟨j, hj, rfl⟩ := List.getElem_of_mem hx
    rw [lead_t]; exact ris_le hr h0 hj (by omega)
/-- The last one ahead, as the program keeps it. -/
def OF (l : List Int) (a : Int) (k : Nat) (t : Int) : Prop :=
  ((∀ j (hj : j < l.length), j < k → ¬ l[j] < a) ∧ t = l.getLastD 0) ∨ ∃ j, ∃ hj : j < l.length, j < k ∧ t = l[j] ∧ l[j] < a ∧ ∀ i (hi : i < l.length), i < k → l[i] < a → l[i] ≤ l[j]
theorem of_zero (l : List Int) (a : Int) : OF l a 0 (l.getLastD 0) := .inl ⟨fun _ _ h => absurd h (Nat.not_lt_zero _), rfl⟩
theorem of_yes {l : List Int} {a : Int} {k : Nat} {t : Int} (hr : Ris l) (hk : k < l.length) (h : l[k] < a) : OF l a (k + 1) l[k] :=
  .inr ⟨k, hk, by omega, rfl, h, fun i hi hik _ => ris_le hr hi hk (by omega)⟩
theorem of_no {l : List Int} {a : Int} {k : Nat} {t : Int} (ho : OF l a k t) (hk : k < l.length) (h : ¬ l[k] < a) : OF l a (k + 1) t := by
  rcases ho with ⟨h1, h2⟩ | ⟨j, hj, h1, h2, h3, h4⟩
  · refine .inl ⟨fun j hj hjk => ?_, h2⟩
    by_cases e : j = k
    · subst e; exact h
    · exact h1 j hj (by omega)
  · refine .inr ⟨j, hj, by omega, h2, h3, fun i hi hik hia => ?_⟩
    by_cases e : i = k
    · subst e; exact absurd hia h
    · exact h4 i hi (by omega) hia
theorem last_get {l : List Int} (h0 : 0 < l.length) : l.getLastD 0 = l[l.length - 1] := by
  rw [List.getLastD_eq_getLast?, List.getLast?_eq_getElem?, List.getElem?_eq_getElem (by omega)]; rfl
theorem off_first {l : List Int} {a : Int} (hr : Ris l) (h0 : 0 < l.length) (h : a ≤ l[0]) : NT false l a (l.getLastD 0) := by
  rw [last_get h0]
  refine ⟨List.getElem_mem _, .inr ⟨fun x hx => ?_, fun x hx => ?_⟩⟩
  · obtain ⟨j, hj, rfl⟩ := List.getElem_of_mem hx
    rw [side_f]
    have := ris_le hr h0 hj (by omega)
    omega
  · obtain ⟨j, hj, rfl⟩ := List.getElem_of_mem hx
    rw [lead_f]; exact ris_le hr hj (by omega) (by omega)
theorem off_end {l : List Int} {a t : Int} (h0 : 0 < l.length) (h : ¬ a ≤ l[0]) (ho : OF l a l.length t) : NT false l a t := by
  rcases ho with ⟨h1, _⟩ | ⟨j, hj, _, rfl, h3, h4⟩
  · exact absurd (show l[0] < a by omega) (h1 0 h0 h0)
  · refine ⟨List.getElem_mem hj, .inl ⟨by rw [side_f]; exact h3, fun x hx hs => ?_⟩⟩
    obtain ⟨i, hi, rfl⟩ := List.getElem_of_mem hx
    rw [side_f] at hs
    rw [lead_f]
    exact h4 i hi hi hs
/-- The document's way: step by step round about. -/
def jj (on : Bool) (L : Nat) (a : Int) (d : Nat) : Int := if on = true then (if a + d ≤ L then a + d else a + d - (L + 1)) else (if (d : Int) ≤ a then a - d else a - d + (L + 1))
theorem jj_mod (on : Bool) (L : Nat) (a : Int) (d : Nat) (ha : 0 ≤ a ∧ a ≤ L) (hd : 1 ≤ d ∧ d ≤ L + 1) : (if on = true then a + d else a - d) % ((L : Int) + 1) = jj on L a d := by
  unfold jj
  cases on
  · simp only [Bool.false_eq_true, if_false]
    split
    · exact Int.emod_eq_of_lt (by omega) (by omega)
    · rw [← Int.add_emod_right]; exact Int.emod_eq_of_lt (by omega) (by omega)
  · simp only [if_true]
    split
    · exact Int.emod_eq_of_lt (by omega) (by omega)
    · rw [← Int.sub_emod_right]; exact Int.emod_eq_of_lt (by omega) (by omega)
def None (on : Bool) (l : List Int) (L : Nat) (a : Int) (d : Nat) : Prop := ∀ e : Nat, 1 ≤ e → e < d → jj on L a e ∉ l
theorem none_one (on : Bool) (l : List Int) (L : Nat) (a : Int) : None on l L a 1 := fun e h1 h2 => by omega
theorem none_next {on : Bool} {l : List Int} {L : Nat} {a : Int} {d : Nat} (h : None on l L a d) (hn : jj on L a d ∉ l) : None on l L a (d + 1) := fun e h1 h2 => by
  by_cases c : e = d
  · subst c; exact hn
  · exact h e h1 (by omega)
theorem jj_hit {on : Bool} {l : List Int} {L : Nat} {a : Int} {d : Nat} (hl : ∀ x ∈ l, 0 ≤ x ∧ x ≤ L) (ha : 0 ≤ a ∧ a ≤ L) (hd : 1 ≤ d ∧ d ≤ L + 1) (h : None on l L a d) (hm : jj on L a d ∈ l) : NT on l a (jj on L a d) := by
  have far : ∀ x ∈ l, ∀ e : Nat, 1 ≤ e → e < d → jj on L a e ≠ x := fun x hx e h1 h2 he => h e h1 h2 (he ▸ hx)
  have hb := hl _ hm
  refine ⟨hm, ?_⟩
  cases on
  · simp only [side_f, lead_f]
    by_cases c : (d : Int) ≤ a
    · have e0 : jj false L a d = a - d := by unfold jj; simp only [Bool.false_eq_true, if_false]; rw [if_pos c]
      rw [e0] at hb ⊢
      refine .inl ⟨by omega, fun x hx hs => ?_⟩
      have hx2 := hl x hx
      refine Classical.byContradiction fun g => ?_
      refine far x hx (a - x).toNat (by omega) (by omega) ?_
      unfold jj; simp only [Bool.false_eq_true, if_false]; rw [if_pos (by omega)]; omega
    · have e0 : jj false L a d = a - d + (L + 1) := by unfold jj; simp only [Bool.false_eq_true, if_false]; rw [if_neg c]
      rw [e0] at hb ⊢
      refine .inr ⟨fun x hx hs => ?_, fun x hx => ?_⟩
      · have hx2 := hl x hx
        refine far x hx (a - x).toNat (by omega) (by omega) ?_
        unfold jj; simp only [Bool.false_eq_true, if_false]; rw [if_pos (by omega)]; omega
      · have hx2 := hl x hx
        refine Classical.byContradiction fun g => ?_
        refine far x hx (a - x + (L + 1)).toNat (by omega) (by omega) ?_
        unfold jj; simp only [Bool.false_eq_true, if_false]
        rw [if_neg (by omega)]; omega
  · simp only [side_t, lead_t]
    by_cases c : a + d ≤ L
    · have e0 : jj true L a d = a + d := by unfold jj; simp only [if_true]; rw [if_pos c]
      rw [e0] at hb ⊢
      refine .inl ⟨by omega, fun x hx hs => ?_⟩
      have hx2 := hl x hx
      refine Classical.byContradiction fun g => ?_
      refine far x hx (x - a).toNat (by omega) (by omega) ?_
      unfold jj; simp only [if_true]; rw [if_pos (by omega)]; omega
    · have e0 : jj true L a d = a + d - (L + 1) := by unfold jj; simp only [if_true]; rw [if_neg c]
      rw [e0] at hb ⊢
      refine .inr ⟨fun x hx hs => ?_, fun x hx => ?_⟩
      · have hx2 := hl x hx
        refine far x hx (x - a).toNat (by omega) (by omega) ?_
        unfold jj; simp only [if_true]; rw [if_pos (by omega)]; omega
      · have hx2 := hl x hx
        refine Classical.byContradiction fun g => ?_
        refine far x hx (x + (L + 1) - a).toNat (by omega) (by omega) ?_
        unfold jj; simp only [if_true]
        rw [if_neg (by omega)]; omega
/-- Not for ever: within L + 1 steps one is met. -/
theorem none_end {on : Bool} {l : List Int} {L : Nat} {a : Int} {d : Nat} (hl : ∀ x ∈ l, 0 ≤ x ∧ x ≤ L) (ha : 0 ≤ a ∧ a ≤ L) (h0 : 0 < l.length) (h : None on l L a d) : d ≤ L + 1 := by
  refine Classical.byContradiction fun g => ?_
  have hx := List.getElem_mem h0
  have hb := hl _ hx
  generalize l[0] = x at *
  cases on
  · by_cases c : x < a
    · refine h (a - x).toNat (by omega) (by omega) ?_
      have e : jj false L a (a - x).toNat = x := by unfold jj; simp only [Bool.false_eq_true, if_false]; rw [if_pos (by omega)]; omega
      rw [e]; exact hx
    · refine h (a - x + (L + 1)).toNat (by omega) (by omega) ?_
      have e : jj false L a (a - x + (L + 1)).toNat = x := by unfold jj; simp only [Bool.false_eq_true, if_false]; rw [if_neg (by omega)]; omega
      rw [e]; exact hx
  · by_cases c : a < x
    · refine h (x - a).toNat (by omega) (by omega) ?_
      have e : jj true L a (x - a).toNat = x := by unfold jj; simp only [if_true]; rw [if_pos (by omega)]; omega
      rw [e]; exact hx
    · refine h (x + (L + 1) - a).toNat (by omega) (by omega) ?_
      have e : jj true L a (x + (L + 1) - a).toNat = x := by unfold jj; simp only [if_true]; rw [if_neg (by omega)]; omega
      rw [e]; exact hx
noncomputable def ni (on : Bool) (l : List Int) : Nat → Int → Int
  | 0, a => a
  | k + 1, a => ni on l k (nt on l a)
end Go.Proofs.YtgkmjkjcdjkffaaDoor.Mo
