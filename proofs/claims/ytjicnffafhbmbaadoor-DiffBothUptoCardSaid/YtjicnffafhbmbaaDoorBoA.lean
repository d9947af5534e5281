/-
  PROVED HERE: the plain law of DiffBoth: changes of edits; two lists of them, one behind the other and from the end. Conditions: as each theorem states.
-/
import Derived.Test.YtjicnffafhbmbaaDoorMyJ
namespace Go.Proofs.YtjicnffafhbmbaaDoor.Bo
open Go.RowKit Go.Proofs.YtjicnffafhbmbaaDoor.My

structure Ch where
  fr : Nat
  to : Nat
  text : ByteArray
  deriving DecidableEq

/-- The changes so far, where the edits stand, and whether the next one opens a new one. -/
structure St where
  out : List Ch
  pos : Nat
  new : Bool
def opened (s : St) : List Ch := if s.new then s.out ++ [⟨s.pos, s.pos, ⟨#[]⟩⟩] else s.out
def lastTo (l : List Ch) (t : ByteArray) (k : Nat) : List Ch :=
  match l.getLast? with
  | some c => l.dropLast ++ [⟨c.fr, k, c.text ++ t⟩]
  | none => []
def chgStep (s : St) (e : Ed) : St :=
  if e.what = 1 then ⟨s.out, s.pos + e.n.toNat, true⟩
  else ⟨lastTo (opened s) e.text (s.pos + e.n.toNat), s.pos + e.n.toNat, false⟩
def chg (l : List Ed) : List Ch := (l.foldl chgStep ⟨[], 0, true⟩).out

theorem lastTo_snoc (d : List Ch) (c : Ch) (t : ByteArray) (k : Nat) : lastTo (d ++ [c]) t k = d ++ [⟨c.fr, k, c.text ++ t⟩] := by
  simp [lastTo]

/-- Changes one behind the other, none touching the next, within N bytes. -/
def Sep (N : Nat) (l : List Ch) : Prop := l.Pairwise (fun x y => x.to < y.fr) ∧ ∀ c ∈ l, c.fr ≤ c.to ∧ c.to ≤ N
def EdOk (e : Ed) : Prop := 0 ≤ e.n ∧ (e.what = 1 → 1 ≤ e.n)
def StOk (T : Nat) (s : St) : Prop := Sep s.pos s.out ∧ (∀ c ∈ s.out, c.text.size ≤ T) ∧ ((s.new = true ∧ ∀ c ∈ s.out, c.to < s.pos ∨ s.out = []) ∨ (s.new = false ∧ ∃ d c, s.out = d ++ [c] ∧ c.to = s.pos))

theorem Sep.mono {N M : Nat} {l : List Ch} (h : Sep N l) (hm : N ≤ M) : Sep M l := ⟨h.1, fun c hc => ⟨(h.2 c hc).1, Nat.le_trans (h.2 c hc).2 hm⟩⟩

/-- What a step opens: the last change ends where the edits stand. -/
theorem opened_ok {T : Nat} {s : St} (h : StOk T s) : ∃ d c, opened s = d ++ [c] ∧ c.to = s.pos ∧ Sep s.pos (d ++ [c]) ∧ ∀ x ∈ d ++ [c], x.text.size ≤ T := by
  obtain ⟨h1, h2, h3 | h3⟩ := h
  · refine ⟨s.out, ⟨s.pos, s.pos, ⟨#[]⟩⟩, by rw [opened, if_pos h3.1], rfl, ⟨?_, ?_⟩, ?_⟩
    · rw [List.pairwise_append]
      refine ⟨h1.1, List.pairwise_singleton _ _, fun x hx y hy => ?_⟩
      rw [List.mem_singleton] at hy
      subst hy
      rcases h3.2 x hx with h | h
      · exact h
      · rw [h] at hx; simp at hx
    · intro c hc
      rcases List.mem_append.1 hc with hc | hc
      · exact h1.2 c hc
      · rw [List.mem_singleton] at hc; subst hc; exact ⟨Nat.le_refl _, Nat.le_refl _⟩
    · intro c hc
      rcases List.mem_append.1 hc with hc | hc
      · exact h2 c hc
      · rw [List.mem_singleton] at hc; subst hc; exact Nat.zero_le _
  · obtain ⟨hn, d, c, ho, hc⟩ := h3
    rw [ho] at h1 h2
    exact ⟨d, c, by rw [opened, hn, ho]; rfl, hc, h1, h2⟩

theorem chgStep_ok {T : Nat} {s : St} {e : Ed} (h : StOk T s) (he : EdOk e) : StOk (T + e.text.size) (chgStep s e) := by
  by_cases hw : e.what = 1
  · rw [chgStep, if_pos hw]
    refine ⟨h.1.mono (Nat.le_add_right _ _), fun c hc => Nat.le_trans (h.2.1 c hc) (Nat.le_add_right _ _), .inl ⟨rfl, fun c hc => ?_⟩⟩
    have := he.2 hw
    have := (h.1.2 c hc).2
    left
    show c.to < s.pos + e.n.toNat
    omega
  · rw [chgStep, if_neg hw]
    obtain ⟨d, c, ho, hc, hs, ht⟩ := opened_ok h
    rw [ho, lastTo_snoc]
    obtain ⟨hp, hb⟩ := hs
    rw [List.pairwise_append] at hp
    have hcb := hb c (by simp)
    refine ⟨⟨?_, ?_⟩, ?_, .inr ⟨rfl, d, _, rfl, rfl⟩⟩
    · show List.Pairwise _ (d ++ _)
      rw [List.pairwise_append]
      refine ⟨hp.1, List.pairwise_singleton _ _, fun x hx y hy => ?_⟩
      rw [List.mem_singleton] at hy
      subst hy
      exact hp.2.2 x hx c (by simp)
    · intro x hx
      show x.fr ≤ x.to ∧ x.to ≤ s.pos + e.n.toNat
      rcases List.mem_append.1 hx with hx | hx
      · have := hb x (List.mem_append_left _ hx); omega
      · rw [List.mem_singleton] at hx; subst hx
        show c.fr ≤ s.pos + e.n.toNat ∧ _
        exact ⟨by omega, Nat.le_refl _⟩
    · intro x hx
      rcases List.mem_append.1 hx with hx | hx
      · exact Nat.le_trans (ht x (List.mem_append_left _ hx)) (Nat.le_add_right _ _)
      · rw [List.mem_singleton] at hx; subst hx
        show (c.text ++ e.text).size ≤ _
        rw [ByteArray.size_append]
        have := ht c (by simp)
        omega
def sumN (l : List Ed) : Nat := (l.map fun e => e.n.toNat).sum
def sumT (l : List Ed) : Nat := (l.map fun e => e.text.size).sum
theorem chgStep_pos (s : St) (e : Ed) : (chgStep s e).pos = s.pos + e.n.toNat := by
  unfold chgStep; split <;> rfl
theorem fold_pos (l : List Ed) : ∀ s : St, (l.foldl chgStep s).pos = s.pos + sumN l := by
  induction l with
  | nil => intro s; rfl
  | cons e r ih => intro s; rw [List.foldl_cons, ih, chgStep_pos, sumN, sumN, List.map_cons, List.sum_cons]; omega
theorem fold_ok (l : List Ed) : ∀ (s : St) (T : Nat), StOk T s → (∀ e ∈ l, EdOk e) → StOk (T + sumT l) (l.foldl chgStep s) := by
  induction l with
  | nil => intro s T h _; exact h
  | cons e r ih =>
    intro s T h he
    rw [List.foldl_cons]
    have := ih (chgStep s e) _ (chgStep_ok h (he e (by simp))) (fun x hx => he x (List.mem_cons_of_mem _ hx))
    rwa [sumT, List.map_cons, List.sum_cons, ← Nat.add_assoc]
theorem st0 : StOk 0 ⟨[], 0, true⟩ := ⟨⟨List.Pairwise.nil, fun c hc => by simp at hc⟩, fun c hc => by simp at hc, .inl ⟨rfl, fun c hc => by simp at hc⟩⟩
theorem chg_ok (l : List Ed) (h : ∀ e ∈ l, EdOk e) : Sep (sumN l) (chg l) ∧ ∀ c ∈ chg l, c.text.size ≤ sumT l := by
  have h1 := fold_ok l _ 0 st0 h
  rw [Nat.zero_add] at h1
  have h2 := fold_pos l ⟨[], 0, true⟩
  refine ⟨?_, h1.2.1⟩
  have := h1.1
  rw [h2, show (St.mk [] 0 true).pos + sumN l = sumN l from Nat.zero_add _] at this
  exact this

/-- Two changes that touch. -/
def touch (p q : Ch) : Prop := p.fr ≤ q.to ∧ q.fr ≤ p.to
instance (p q : Ch) : Decidable (touch p q) := inferInstanceAs (Decidable (_ ∧ _))
/-- The program's way: from the left. -/
def merge : List Ch → List Ch → Option (List Ch)
  | p :: P, q :: Q =>
    if p = q then (merge P Q).map (p :: ·)
    else if touch p q then none
    else if p.fr < q.fr then (merge P (q :: Q)).map (p :: ·)
    else (merge (p :: P) Q).map (q :: ·)
  | p :: P, [] => (merge P []).map (p :: ·)
  | [], q :: Q => (merge [] Q).map (q :: ·)
  | [], [] => some []
  termination_by P Q => P.length + Q.length
/-- The document's: whether any two touch that are not one. -/
def clash (P Q : List Ch) : Prop := ∃ q ∈ Q, ∃ p ∈ P, p ≠ q ∧ touch p q
/-- Those of the second list that the first one has not. -/
def more (P Q : List Ch) : List Ch := Q.filter (fun q => decide (q ∉ P))

theorem more_nil (Q : List Ch) : more [] Q = Q := by
  unfold more; rw [List.filter_eq_self]; intro a _; simp
theorem more_drop {p : Ch} {P Q : List Ch} (h : p ∉ Q) : more (p :: P) Q = more P Q := by
  unfold more
  refine List.filter_congr fun q hq => ?_
  have : q ≠ p := fun e => h (e ▸ hq)
  simp [this]
theorem Sep.tail {N : Nat} {c : Ch} {l : List Ch} (h : Sep N (c :: l)) : Sep N l := ⟨(List.pairwise_cons.1 h.1).2, fun x hx => h.2 x (List.mem_cons_of_mem _ hx)⟩
theorem Sep.head {N : Nat} {c : Ch} {l : List Ch} (h : Sep N (c :: l)) : ∀ x ∈ l, c.to < x.fr := (List.pairwise_cons.1 h.1).1
theorem Sep.le {N : Nat} {c : Ch} {l : List Ch} (h : Sep N (c :: l)) : ∀ x ∈ c :: l, c.fr ≤ x.fr := by
  intro x hx
  rcases List.mem_cons.1 hx with rfl | hx
  · exact Nat.le_refl _
  · have := h.head x hx
    have := (h.2 c (by simp)).1
    omega

/-- What comes of two lists that do not clash. -/
structure Mg (N : Nat) (P Q M : List Ch) : Prop where
  perm : M.Perm (P ++ more P Q)
  sep : Sep N M

theorem merge_ok {N : Nat} : ∀ (n : Nat) (P Q : List Ch), P.length + Q.length = n → Sep N P → Sep N Q → (clash P Q ∧ merge P Q = none) ∨ (¬ clash P Q ∧ ∃ M, merge P Q = some M ∧ Mg N P Q M) := by
  intro n
  induction n using Nat.strongRecOn with
  | ind n ih =>
  intro P Q hn hP hQ
  match P, Q with
  | [], [] =>
    refine .inr ⟨fun ⟨q, hq, _⟩ => by simp at hq, [], by rw [merge], ⟨by simp [more], ⟨List.Pairwise.nil, fun c hc => by simp at hc⟩⟩⟩
  | p :: P, [] =>
    right
    refine ⟨fun ⟨q, hq, _⟩ => by simp at hq, ?_⟩
    rcases ih _ (by simp at hn ⊢; omega) P [] rfl hP.tail hQ with ⟨⟨q, hq, _⟩, _⟩ | ⟨_, M, hM, hg⟩
    · simp at hq
    · have hp : M.Perm P := by simpa [more] using hg.perm
      refine ⟨p :: M, by rw [merge, hM]; rfl, ⟨by simpa [more] using hp, ⟨List.pairwise_cons.2 ⟨fun x hx => hP.head x (hp.mem_iff.1 hx), hg.sep.1⟩, fun c hc => ?_⟩⟩⟩
      rcases List.mem_cons.1 hc with rfl | hc
      · exact hP.2 c (by simp)
      · exact hg.sep.2 c hc
  | [], q :: Q =>
    right
    refine ⟨fun ⟨_, _, p, hp, _⟩ => by simp at hp, ?_⟩
    rcases ih _ (by simp at hn ⊢; omega) [] Q rfl hP hQ.tail with ⟨⟨_, _, p, hp, _⟩, _⟩ | ⟨_, M, hM, hg⟩
    · simp at hp
    · have hp : M.Perm Q := by simpa [more_nil] using hg.perm
      refine ⟨q :: M, by rw [merge, hM]; rfl, ⟨by simpa [more_nil] using hp, ⟨List.pairwise_cons.2 ⟨fun x hx => hQ.head x (hp.mem_iff.1 hx), hg.sep.1⟩, fun c hc => ?_⟩⟩⟩
      rcases List.mem_cons.1 hc with rfl | hc
      · exact hQ.2 c (by simp)
      · exact hg.sep.2 c hc
  | p :: P, q :: Q =>
    have hpb := hP.2 p (by simp)
    have hqb := hQ.2 q (by simp)
    by_cases e : p = q
    · subst e
      have hnP : p ∉ P := fun h => by have := hP.head p h; omega
      have hnQ : p ∉ Q := fun h => by have := hQ.head p h; omega
      have hcl : clash (p :: P) (p :: Q) ↔ clash P Q := by
        constructor
        · rintro ⟨y, hy, x, hx, hne, ht⟩
          rcases List.mem_cons.1 hy with rfl | hy' <;> rcases List.mem_cons.1 hx with rfl | hx'
          · exact absurd rfl hne
          · have := hP.head x hx'; have := ht.1; omega
          · have := hQ.head y hy'; have := ht.2; omega
          · exact ⟨y, hy', x, hx', hne, ht⟩
        · rintro ⟨y, hy, x, hx, h⟩
          exact ⟨y, List.mem_cons_of_mem _ hy, x, List.mem_cons_of_mem _ hx, h⟩
      have hm : merge (p :: P) (p :: Q) = (merge P Q).map (p :: ·) := by rw [merge, if_pos rfl]
      have hmo : more (p :: P) (p :: Q) = more P Q := by
        rw [show more (p :: P) (p :: Q) = more (p :: P) Q by simp [more], more_drop hnQ]
      rcases ih _ (by simp at hn ⊢; omega) P Q rfl hP.tail hQ.tail with ⟨h1, h2⟩ | ⟨h1, M, hM, hg⟩
      · exact .inl ⟨hcl.2 h1, by rw [hm, h2]; rfl⟩
      · refine .inr ⟨fun h => h1 (hcl.1 h), p :: M, by rw [hm, hM]; rfl, ⟨by rw [hmo]; exact hg.perm.cons p, ⟨List.pairwise_cons.2 ⟨fun x hx => ?_, hg.sep.1⟩, fun c hc => ?_⟩⟩⟩
        · rcases List.mem_append.1 (hg.perm.mem_iff.1 hx) with h | h
          · exact hP.head x h
          · exact hQ.head x (List.mem_filter.1 h).1
        · rcases List.mem_cons.1 hc with rfl | hc
          · exact hpb
          · exact hg.sep.2 c hc
    · by_cases t : touch p q
      · exact .inl ⟨⟨q, by simp, p, by simp, e, t⟩, by rw [merge, if_neg e, if_pos t]⟩
      · by_cases hlt : p.fr < q.fr
        · have hpq : p.to < q.fr := by
            by_cases h : p.to < q.fr
            · exact h
            · exact absurd ⟨by omega, by omega⟩ t
          have hnQ : p ∉ q :: Q := fun h => by have := hQ.le p h; omega
          have hcl : clash (p :: P) (q :: Q) ↔ clash P (q :: Q) := by
            constructor
            · rintro ⟨y, hy, x, hx, hne, ht⟩
              rcases List.mem_cons.1 hx with rfl | hx'
              · have := hQ.le y hy; have := ht.2; omega
              · exact ⟨y, hy, x, hx', hne, ht⟩
            · rintro ⟨y, hy, x, hx, h⟩
              exact ⟨y, hy, x, List.mem_cons_of_mem _ hx, h⟩
          have hm : merge (p :: P) (q :: Q) = (merge P (q :: Q)).map (p :: ·) := by rw [merge, if_neg e, if_neg t, if_pos hlt]
          have hmo : more (p :: P) (q :: Q) = more P (q :: Q) := more_drop hnQ
          rcases ih _ (by simp at hn ⊢; omega) P (q :: Q) rfl hP.tail hQ with ⟨h1, h2⟩ | ⟨h1, M, hM, hg⟩
          · exact .inl ⟨hcl.2 h1, by rw [hm, h2]; rfl⟩
          · refine .inr ⟨fun h => h1 (hcl.1 h), p :: M, by rw [hm, hM]; rfl, ⟨by rw [hmo]; exact hg.perm.cons p, ⟨List.pairwise_cons.2 ⟨fun x hx => ?_, hg.sep.1⟩, fun c hc => ?_⟩⟩⟩
            · rcases List.mem_append.1 (hg.perm.mem_iff.1 hx) with h | h
              · exact hP.head x h
              · have := hQ.le x (List.mem_filter.1 h).1; omega
            · rcases List.mem_cons.1 hc with rfl | hc
              · exact hpb
              · exact hg.sep.2 c hc
        · have hqp : q.to < p.fr := by
            by_cases h : q.to < p.fr
            · exact h
            · exact absurd ⟨by omega, by omega⟩ t
          have hnP : q ∉ p :: P := fun h => by have := hP.le q h; omega
          have hcl : clash (p :: P) (q :: Q) ↔ clash (p :: P) Q := by
            constructor
            · rintro ⟨y, hy, x, hx, hne, ht⟩
              rcases List.mem_cons.1 hy with rfl | hy'
              · have := hP.le x hx; have := ht.1; omega
              · exact ⟨y, hy', x, hx, hne, ht⟩
            · rintro ⟨y, hy, x, hx, h⟩
              exact ⟨y, List.mem_cons_of_mem _ hy, x, hx, h⟩
          have hm : merge (p :: P) (q :: Q) = (merge (p :: P) Q).map (q :: ·) := by rw [merge, if_neg e, if_neg t, if_neg hlt]
          have hmo : more (p :: P) (q :: Q) = q :: more (p :: P) Q := by
            unfold more; rw [List.filter_cons_of_pos (by simpa using hnP)]
          rcases ih _ (by simp at hn ⊢; omega) (p :: P) Q rfl hP hQ.tail with ⟨h1, h2⟩ | ⟨h1, M, hM, hg⟩
          · exact .inl ⟨hcl.2 h1, by rw [hm, h2]; rfl⟩
          · refine .inr ⟨fun h => h1 (hcl.1 h), q :: M, by rw [hm, hM]; rfl, ⟨by rw [hmo]; exact (hg.perm.cons q).trans List.perm_middle.symm, ⟨List.pairwise_cons.2 ⟨fun x hx => ?_, hg.sep.1⟩, fun c hc => ?_⟩⟩⟩
            · rcases List.mem_append.1 (hg.perm.mem_iff.1 hx) with h | h
              · have := hP.le x h; omega
              · exact hQ.head x (List.mem_filter.1 h).1
            · rcases List.mem_cons.1 hc with rfl | hc
              · exact hqb
              · exact hg.sep.2 c hc

/-- The text, put together from the left. -/
def asm (old : ByteArray) : Nat → List Ch → ByteArray
  | k, [] => old.extract k old.size
  | k, c :: M => (old.extract k c.fr ++ c.text) ++ asm old c.to M
/-- One change done. -/
def put1 (s : ByteArray) (c : Ch) : ByteArray := (s.extract 0 c.fr ++ c.text) ++ s.extract c.to s.size
theorem put_tail (old Y : ByteArray) (c : Ch) (h : c.fr ≤ c.to) (hn : c.to ≤ old.size) : put1 (old.extract 0 c.to ++ Y) c = (old.extract 0 c.fr ++ c.text) ++ Y := by
  have hs : (old.extract 0 c.to).size = c.to := by rw [ByteArray.size_extract]; omega
  unfold put1
  rw [ByteArray.extract_append_eq_right (i := c.to) hs.symm (by rw [ByteArray.size_append]), ByteArray.extract_append, ByteArray.extract_extract, hs]
  rw [show c.fr - c.to = 0 by omega, show 0 - c.to = 0 by omega, ByteArray.extract_same, ByteArray.append_empty, show 0 + 0 = 0 from rfl, show min (0 + c.fr) c.to = c.fr by omega]
theorem put_asm (old : ByteArray) : ∀ (M : List Ch) (k : Nat), Sep old.size M → (∀ c ∈ M, k ≤ c.fr) → k ≤ old.size → M.reverse.foldl put1 old = old.extract 0 k ++ asm old k M := by
  intro M
  induction M with
  | nil =>
    intro k _ _ hk
    show old = old.extract 0 k ++ old.extract k old.size
    rw [← ByteArray.extract_eq_extract_append_extract k (Nat.zero_le _) hk, ByteArray.extract_zero_size]
  | cons c M ih =>
    intro k hM hk hkn
    have hb := hM.2 c (by simp)
    rw [List.reverse_cons, List.foldl_append, ih c.to hM.tail (fun x hx => Nat.le_of_lt (hM.head x hx)) hb.2]
    show put1 _ c = _
    rw [put_tail _ _ _ hb.1 hb.2, asm, ByteArray.extract_eq_extract_append_extract (a := old) (i := 0) (k := c.fr) k (Nat.zero_le _) (hk c (by simp))]
    simp only [ByteArray.append_assoc]
theorem asm_all (old : ByteArray) (M : List Ch) (h : Sep old.size M) : M.reverse.foldl put1 old = asm old 0 M := by
  rw [put_asm old M 0 h (fun _ _ => Nat.zero_le _) (Nat.zero_le _), ByteArray.extract_same, ByteArray.empty_append]
/-- From the end: the next change lies within what has come of those behind it. -/
theorem back_room (old : ByteArray) (M A B : List Ch) (c : Ch) (h : Sep old.size M) (e : M.reverse = A ++ c :: B) : c.fr ≤ c.to ∧ c.to ≤ (A.foldl put1 old).size := by
  have e2 : M = B.reverse ++ c :: A.reverse := by
    have := congrArg List.reverse e
    simpa using this
  subst e2
  have hp := h.1
  rw [List.pairwise_append] at hp
  have hc : Sep old.size (c :: A.reverse) := ⟨hp.2.1, fun x hx => h.2 x (List.mem_append_right _ hx)⟩
  have hb := hc.2 c (by simp)
  refine ⟨hb.1, ?_⟩
  have := put_asm old A.reverse c.to hc.tail (fun x hx => Nat.le_of_lt (hc.head x hx)) hb.2
  rw [List.reverse_reverse] at this
  rw [this, ByteArray.size_append, ByteArray.size_extract]
  omega
theorem back_size (K : Nat) : ∀ (A : List Ch) (s : ByteArray), (∀ c ∈ A, c.fr ≤ c.to ∧ c.text.size ≤ K) → (A.foldl put1 s).size ≤ s.size + A.length * K := by
  intro A
  induction A with
  | nil => intro s _; simp
  | cons c A ih =>
    intro s h
    rw [List.foldl_cons]
    have h1 := ih (put1 s c) (fun x hx => h x (List.mem_cons_of_mem _ hx))
    have h2 := h c (by simp)
    have h3 : (put1 s c).size ≤ s.size + K := by
      unfold put1
      rw [ByteArray.size_append, ByteArray.size_append, ByteArray.size_extract, ByteArray.size_extract]
      omega
    rw [List.length_cons, Nat.add_mul]
    omega
/-- Two lists of the same changes, both falling, are one. -/
theorem falls_one {N : Nat} {M L : List Ch} (h : Sep N M) (hp : L.Perm M) (hs : L.Pairwise fun x y => y.fr ≤ x.fr) : L = M.reverse := by
  have inj : ∀ l : List Ch, l.Pairwise (fun x y => x.to < y.fr) → (∀ c ∈ l, c.fr ≤ c.to) → ∀ a ∈ l, ∀ b ∈ l, a.fr = b.fr → a = b := by
    intro l
    induction l with
    | nil => intro _ _ a ha; simp at ha
    | cons c r ih =>
      intro h1 h2 a ha b hb he
      rw [List.pairwise_cons] at h1
      have hc := h2 c (by simp)
      rcases List.mem_cons.1 ha with ea | ha2 <;> rcases List.mem_cons.1 hb with eb | hb2
      · rw [ea, eb]
      · subst ea; have := h1.1 b hb2; omega
      · subst eb; have := h1.1 a ha2; omega
      · exact ih h1.2 (fun x hx => h2 x (List.mem_cons_of_mem _ hx)) a ha2 b hb2 he
  refine List.Perm.eq_of_pairwise (le := fun x y => y.fr ≤ x.fr) (fun a b ha hb h1 h2 => inj M h.1 (fun c hc => (h.2 c hc).1) a (hp.mem_iff.1 ha) b (by simpa using hb) (by omega)) hs ?_ (hp.trans (List.reverse_perm M).symm)
  rw [List.pairwise_reverse]
  have := h.1
  have h2 := h.2
  clear hp hs inj h
  induction M with
  | nil => exact List.Pairwise.nil
  | cons c r ih =>
    rw [List.pairwise_cons] at this ⊢
    refine ⟨fun x hx => ?_, ih this.2 (fun x hx => h2 x (List.mem_cons_of_mem _ hx))⟩
    have := this.1 x hx
    have := h2 c (by simp)
    omega
end Go.Proofs.YtjicnffafhbmbaaDoor.Bo
