/-
  PROVED HERE: the document's trial of ends, key by key, tells what the program's walk tells (plain Lean). Conditions: as each theorem states.
-/
import Derived.Test.YtgkmjkjcdjkffaaDoorKeyA
namespace Go.Proofs.YtgkmjkjcdjkffaaDoor.Key
def ends : List (List UInt8) := [[104], [97], [48], [48, 48], [97, 104]]
def May (f : List UInt8 → Out) : Prop := ∃ e ∈ ends, ∃ c, f e = .done c []
def Dull (f : List UInt8 → Out) : Prop := (∀ c, f [48, 48] ≠ .done c []) ∧ ∀ x r, f [x] ≠ .bad r true
def Two (key : UInt8) (f : List UInt8 → Out) : Prop := argn key = 2 ∧ ∃ c, ∀ t, f t = fin key c t
structure St (last : Option UInt8) (f : List UInt8 → Out) : Prop where
  may : May f
  one : ∀ x, One (f [x])
  two : (∃ key, last = some key ∧ Two key f) ∨ Dull f
theorem fin_one (key : UInt8) (c : Cm) (l : List UInt8) (h : l.length < argn key) (x : UInt8) : One (fin key c (l ++ [x])) := by
  have hn := argn_le key
  unfold fin
  generalize argn key = n at *
  rcases (show n = 1 ∨ n = 2 by omega) with rfl | rfl
  · obtain rfl : l = [] := List.eq_nil_of_length_eq_zero (by omega)
    rw [List.nil_append]
    split
    · rfl
    · split
      · trivial
      · rfl
  · rcases l with _ | ⟨y, _ | ⟨z, l⟩⟩
    · rw [List.nil_append]
      split
      · rfl
      · split
        · trivial
        · rfl
    · rw [List.cons_append, List.nil_append]
      split
      · rfl
      · split
        · trivial
        · rfl
    · simp at h; omega
theorem fin_nil (key : UInt8) (c : Cm) : (fin key c [] = .more) ∨ (fin key c [] = .done c [] ∧ argn key = 0) ∨ ∃ c', fin key c [] = .done c' [] := by
  unfold fin
  simp
  by_cases h : argn key = 0
  · exact .inr (.inr (by rw [h]; exact ⟨_, rfl⟩))
  · exact .inl (by omega)
theorem fin_st (key : UInt8) (c : Cm) (l : List UInt8) (h : fin key c l = .more) : St ((key :: l).getLast?) (fun t => fin key c (l ++ t)) := by
  have hn := argn_le key
  have hl : l.length < argn key := by
    unfold fin at h
    split at h
    · cases h
    · split at h
      · assumption
      · cases h
  refine ⟨?_, fun x => fin_one key c l hl x, ?_⟩
  · rcases (show argn key = 1 ∨ argn key = 2 by omega) with h1 | h1
    · obtain rfl : l = [] := List.eq_nil_of_length_eq_zero (by omega)
      refine ⟨[104], by decide, { c with arg := [104] }, ?_⟩
      unfold fin
      rw [h1]
      rfl
    · rcases l with _ | ⟨y, _ | ⟨z, l⟩⟩
      · refine ⟨[48, 48], by decide, { c with arg := [48, 48] }, ?_⟩
        unfold fin
        rw [h1]
        rfl
      · refine ⟨[48], by decide, { c with arg := [y, 48] }, ?_⟩
        unfold fin at h ⊢
        rw [h1] at h ⊢
        have ho : okA 2 y = true := by
          rcases hk : okA 2 y with _ | _
          · simp [hk] at h
          · rfl
        have h0 : okA 2 48 = true := by decide
        simp [ho, h0]
      · simp at hl; omega
  · rcases (show argn key = 1 ∨ argn key = 2 by omega) with h1 | h1
    · obtain rfl : l = [] := List.eq_nil_of_length_eq_zero (by omega)
      refine .inr ⟨fun c' => ?_, fun x r => ?_⟩
      · unfold fin
        rw [h1]
        have h0 : okA 1 48 = false := by decide
        simp [h0]
      · unfold fin
        rw [h1]
        simp only [List.nil_append]
        split
        · simp
        · simp
    · rcases l with _ | ⟨y, _ | ⟨z, l⟩⟩
      · exact .inl ⟨key, rfl, h1, c, fun t => rfl⟩
      · refine .inr ⟨fun c' => ?_, fun x r => ?_⟩
        · unfold fin
          rw [h1]
          simp only [List.cons_append, List.nil_append]
          split
          · simp
          · simp
        · unfold fin
          rw [h1]
          simp only [List.cons_append, List.nil_append]
          split
          · simp
          · simp
      · simp at hl; omega
theorem fin_nb (key : UInt8) (c : Cm) (r : List UInt8) (w : Bool) : fin key c [] ≠ .bad r w := by
  rcases fin_nil key c with h | ⟨h, _⟩ | ⟨_, h⟩ <;> rw [h] <;> simp
theorem fin_nil_one (key : UInt8) (c : Cm) : One (fin key c []) := by
  rcases fin_nil key c with h | ⟨h, _⟩ | ⟨_, h⟩ <;> rw [h]
  · trivial
  · rfl
  · rfl
theorem st_last {a b : Option UInt8} {f : List UInt8 → Out} (h : St a f) (e : a = b) : St b f := e ▸ h
theorem bd2_x (reg : UInt8) (n : Nat) (op x : UInt8) : One (bd2 reg n op [x]) ∧ ∀ r, bd2 reg n op [x] ≠ .bad r true := by
  rw [bd2]
  split
  · exact ⟨rfl, fun r => by simp⟩
  · split
    · exact ⟨fin_nil_one _ _, fun r => fin_nb _ _ _ _⟩
    · exact ⟨rfl, fun r => by simp⟩
theorem bd2_h (reg : UInt8) (n : Nat) (op : UInt8) : ∃ c, bd2 reg n op [104] = .done c [] := by
  rw [bd2]
  split
  · exact ⟨_, rfl⟩
  · exact ⟨_, rfl⟩
theorem bd2_00 (reg : UInt8) (n : Nat) (op : UInt8) (c : Cm) : bd2 reg n op [48, 48] ≠ .done c [] := by
  rw [bd2]
  split
  · simp
  · rw [if_pos (by decide)]
    have : argn 48 = 0 := by decide
    unfold fin
    rw [this]
    simp
theorem bd2_st (reg : UInt8) (n : Nat) (op : UInt8) (l : List UInt8) (h : bd2 reg n op l = .more) : St ((op :: l).getLast?) (fun t => bd2 reg n op (l ++ t)) := by
  cases l with
  | nil =>
    obtain ⟨c, hc⟩ := bd2_h reg n op
    exact ⟨⟨[104], by decide, c, hc⟩, fun x => (bd2_x reg n op x).1, .inr ⟨fun c => bd2_00 reg n op c, fun x r => (bd2_x reg n op x).2 r⟩⟩
  | cons mv l =>
    have hf : ∀ t, bd2 reg n op (mv :: l ++ t) = bd2 reg n op (mv :: (l ++ t)) := fun t => rfl
    by_cases h1 : mv = op
    · rw [bd2, if_pos h1] at h; cases h
    · by_cases h2 : (mot mv || far mv) = true
      · rw [bd2, if_neg h1, if_pos h2] at h
        have e : (fun t => bd2 reg n op (mv :: l ++ t)) = fun t => fin mv ⟨reg, n, op, mv, []⟩ (l ++ t) := by
          funext t
          rw [hf, bd2, if_neg h1, if_pos h2]
        rw [e]
        exact st_last (fin_st _ _ _ h) (by rw [List.getLast?_cons_cons])
      · rw [bd2, if_neg h1, if_neg h2] at h; cases h
/-- Behind a number that is all. -/
theorem num_st (last : Option UInt8) (m : Nat) (G : Nat → List UInt8 → Out) (h0 : ∀ k, G k [] = .more) (hh : ∀ k, ∃ c, G k [104] = .done c []) (h00 : ∀ k c, G k [48, 48] ≠ .done c []) (hx : ∀ k x, One (G k [x]) ∧ ∀ r, G k [x] ≠ .bad r true) :
    St last (fun t => G (ct m t).1 (ct m t).2) := by
  have x1 : ∀ k x, One (G (ct k [x]).1 (ct k [x]).2) ∧ ∀ r, G (ct k [x]).1 (ct k [x]).2 ≠ .bad r true := by
    intro k x
    rw [ct]
    split
    · rw [ct, h0]
      exact ⟨trivial, fun r => by simp⟩
    · exact hx _ _
  refine ⟨⟨[104], by decide, ?_⟩, fun x => (x1 m x).1, .inr ⟨fun c => ?_, fun x r => (x1 m x).2 r⟩⟩
  · have : isD m 104 = false := by unfold isD; rw [show (decide (48 ≤ (104 : UInt8) ∧ (104 : UInt8) ≤ 57)) = false by decide]; rfl
    show ∃ c, G (ct m [104]).1 (ct m [104]).2 = .done c []
    rw [ct, if_neg (by rw [this]; decide)]
    exact hh m
  · show G (ct m [48, 48]).1 (ct m [48, 48]).2 ≠ _
    rw [ct]
    split
    · rw [ct]
      split
      · rw [ct, h0]; simp
      · rename_i h1 h2
        exfalso
        apply h2
        unfold isD at h1 ⊢
        simp only [bne_self_eq_false, Bool.or_false, Bool.and_eq_true, decide_eq_true_eq] at h1 ⊢
        exact ⟨h1.1, by omega⟩
    · exact h00 _ _
theorem ct_suf : ∀ (l : List UInt8) (n : Nat), ∃ d, l = d ++ (ct n l).2
  | [], n => ⟨[], rfl⟩
  | c :: r, n => by
    rw [ct]
    split
    · obtain ⟨d, hd⟩ := ct_suf r (min (n * 10 + (c.toNat - 48)) 9999)
      exact ⟨c :: d, by rw [List.cons_append, ← hd]⟩
    · exact ⟨[], rfl⟩
theorem bd1_h (reg : UInt8) (n : Nat) : ∃ c, bd1 reg n [104] = .done c [] := ⟨_, rfl⟩
theorem bd1_00 (reg : UInt8) (n : Nat) (c : Cm) : bd1 reg n [48, 48] ≠ .done c [] := by
  have : bd1 reg n [48, 48] = .done ⟨reg, n, 48, 0, []⟩ [48] := rfl
  rw [this]; simp
theorem bd1_x (reg : UInt8) (n : Nat) (x : UInt8) : One (bd1 reg n [x]) ∧ ∀ r, bd1 reg n [x] ≠ .bad r true := by
  rw [bd1]
  split
  · exact ⟨trivial, fun r => by simp [ct, bd2]⟩
  · split
    · exact ⟨fin_nil_one _ _, fun r => fin_nb _ _ _ _⟩
    · exact ⟨rfl, fun r => by simp⟩
theorem last_suf (a : UInt8) (d r : List UInt8) (h : r ≠ []) : (a :: (d ++ r)).getLast? = r.getLast? := by
  cases r with
  | nil => exact absurd rfl h
  | cons b r =>
    rw [show a :: (d ++ b :: r) = (a :: d) ++ b :: r from rfl, List.getLast?_append]
    simp [List.getLast?_cons]
theorem last_cons (a : UInt8) (r : List UInt8) (h : r ≠ []) : (a :: r).getLast? = r.getLast? := last_suf a [] r h
theorem bd1_st (reg : UInt8) (n : Nat) (op : UInt8) (l : List UInt8) (h : bd1 reg n (op :: l) = .more) : St ((op :: l).getLast?) (fun t => bd1 reg n (op :: (l ++ t))) := by
  by_cases h1 : dyc op = true
  · rw [bd1, if_pos h1] at h
    have e : (fun t => bd1 reg n (op :: (l ++ t))) = fun t => bd2 reg (nn n (ct 0 (l ++ t)).1) op (ct 0 (l ++ t)).2 := by
      funext t
      rw [bd1, if_pos h1]
    rw [e]
    by_cases h2 : (ct 0 l).2 = []
    · have e2 : (fun t => bd2 reg (nn n (ct 0 (l ++ t)).1) op (ct 0 (l ++ t)).2) = fun t => (fun k r => bd2 reg (nn n k) op r) (ct (ct 0 l).1 t).1 (ct (ct 0 l).1 t).2 := by
        funext t
        rw [ct_app, if_pos h2]
      rw [e2]
      exact num_st _ _ (fun k r => bd2 reg (nn n k) op r) (fun k => rfl) (fun k => bd2_h _ _ _) (fun k c => bd2_00 _ _ _ c) (fun k x => bd2_x _ _ _ x)
    · have e2 : (fun t => bd2 reg (nn n (ct 0 (l ++ t)).1) op (ct 0 (l ++ t)).2) = fun t => bd2 reg (nn n (ct 0 l).1) op ((ct 0 l).2 ++ t) := by
        funext t
        rw [ct_app, if_neg h2]
      rw [e2]
      refine st_last (bd2_st _ _ _ _ h) ?_
      obtain ⟨d, hd⟩ := ct_suf l 0
      rw [last_cons op _ h2]
      conv => rhs; rw [hd]
      rw [last_suf op d _ h2]
  · by_cases h2 : known op = true
    · rw [bd1, if_neg h1, if_pos h2] at h
      have e : (fun t => bd1 reg n (op :: (l ++ t))) = fun t => fin op ⟨reg, n, op, 0, []⟩ (l ++ t) := by
        funext t
        rw [bd1, if_neg h1, if_pos h2]
      rw [e]
      exact fin_st _ _ _ h
    · rw [bd1, if_neg h1, if_neg h2] at h; cases h
theorem body_st (reg : UInt8) (l : List UInt8) (h : body reg l = .more) : St l.getLast? (fun t => body reg (l ++ t)) := by
  unfold body at h
  by_cases h2 : (ct 0 l).2 = []
  · have e2 : (fun t => body reg (l ++ t)) = fun t => (fun k r => bd1 reg k r) (ct (ct 0 l).1 t).1 (ct (ct 0 l).1 t).2 := by
      funext t
      unfold body
      rw [ct_app, if_pos h2]
    rw [e2]
    exact num_st _ _ (fun k r => bd1 reg k r) (fun k => rfl) (fun k => bd1_h _ _) (fun k c => bd1_00 _ _ c) (fun k x => bd1_x _ _ x)
  · have e2 : (fun t => body reg (l ++ t)) = fun t => bd1 reg (ct 0 l).1 ((ct 0 l).2 ++ t) := by
      funext t
      unfold body
      rw [ct_app, if_neg h2]
    rw [e2]
    obtain ⟨d, hd⟩ := ct_suf l 0
    have hl : l.getLast? = (ct 0 l).2.getLast? := by
      conv => lhs; rw [hd]
      rw [List.getLast?_append]
      generalize (ct 0 l).2 = r at *
      cases r with
      | nil => exact absurd rfl h2
      | cons b r => simp [List.getLast?_cons]
    rw [hl]
    generalize (ct 0 l).2 = r at *
    generalize (ct 0 l).1 = m at *
    cases r with
    | nil => exact absurd rfl h2
    | cons op r => exact bd1_st reg m op r h
theorem pp_st (l : List UInt8) (h : pp l = .more) : St l.getLast? (fun t => pp (l ++ t)) := by
  rcases l with _ | ⟨c, r⟩
  · refine ⟨⟨[104], by decide, _, rfl⟩, fun x => ?_, .inr ⟨fun c => ?_, fun x r => ?_⟩⟩
    · show One (pp [x])
      unfold pp
      simp only
      split
      · trivial
      · unfold body
        rw [ct]
        split
        · rw [ct]; trivial
        · exact (bd1_x _ _ _).1
    · have : pp [48, 48] = .done ⟨0, 0, 48, 0, []⟩ [48] := rfl
      show pp [48, 48] ≠ _
      rw [this]; simp
    · show pp [x] ≠ _
      unfold pp
      simp only
      split
      · simp
      · unfold body
        rw [ct]
        split
        · rw [ct]; simp [bd1]
        · exact (bd1_x _ _ _).2 _
  · by_cases h1 : c = 34
    · subst h1
      rcases r with _ | ⟨g, r⟩
      · refine ⟨⟨[97, 104], by decide, _, rfl⟩, fun x => ?_, .inr ⟨fun c => ?_, fun x r => ?_⟩⟩
        · show One (pp [34, x])
          unfold pp
          simp only [if_pos]
          split
          · trivial
          · rfl
        · have : pp [34, 48, 48] = .bad [48] false := rfl
          show pp [34, 48, 48] ≠ _
          rw [this]; simp
        · show pp [34, x] ≠ _
          unfold pp
          simp only [if_pos]
          split
          · simp [body, ct, bd1]
          · simp
      · have e : ∀ t, pp (34 :: g :: t) = if regOk g = true then body g t else .bad t false := fun t => by unfold pp; simp only [if_pos]
        rw [e] at h
        by_cases h2 : regOk g = true
        · rw [if_pos h2] at h
          have e2 : (fun t => pp (34 :: g :: r ++ t)) = fun t => body g (r ++ t) := by
            funext t
            rw [List.cons_append, List.cons_append, e, if_pos h2]
          rw [e2]
          have hs := body_st g r h
          refine ⟨hs.may, hs.one, ?_⟩
          rcases hs.two with ⟨key, hk, ht⟩ | hd
          · refine .inl ⟨key, ?_, ht⟩
            cases r with
            | nil => cases hk
            | cons b r => rw [List.getLast?_cons_cons, List.getLast?_cons_cons]; exact hk
          · exact .inr hd
        · rw [if_neg h2] at h; cases h
    · have e : ∀ t, pp (c :: t) = body 0 (c :: t) := fun t => by unfold pp; simp only [if_neg h1]
      rw [e] at h
      have e2 : (fun t => pp (c :: r ++ t)) = fun t => body 0 (c :: r ++ t) := by
        funext t
        rw [List.cons_append, e]
      rw [e2]
      exact body_st 0 (c :: r) h
/-- What both tell. -/
def kp (l : List UInt8) : Cm × Nat × Nat := match pp l with
  | .more => (cm0, l.length, 0)
  | .done c r => (c, l.length - r.length, 1)
  | .bad r _ => (cm0, l.length - r.length, 2)
def fr (c : UInt8) : Bool := c == 102 || c == 114
theorem fr_of {key : UInt8} (h : argn key = 2) : fr key = true := by
  unfold argn at h
  split at h
  · cases h
  · split at h
    · rename_i h1
      unfold fr
      rcases h1 with rfl | rfl <;> rfl
    · cases h
theorem fc_no {l : List UInt8} (h : ∀ c, pp l ≠ .done c []) : (fc l).2 = false := by
  rcases hb : (fc l).2 with _ | _
  · rfl
  · exact absurd ((fc_full l).1 hb) (h _)
theorem fc_yes {l : List UInt8} {c : Cm} (h : pp l = .done c []) : fc l = (c, true) := (fc_full l).2 c h
theorem last_at (l : List UInt8) (n : Nat) (key : UInt8) (h : (l.take (n - 1)).getLast? = some key) (hn : n ≤ l.length) : 1 < n ∧ l[n - 2]? = some key := by
  rw [List.getLast?_eq_getElem?, List.length_take] at h
  rw [List.getElem?_take] at h
  split at h
  · rename_i h1
    rw [show min (n - 1) l.length = n - 1 by omega] at h h1
    exact ⟨by omega, by rw [show n - 2 = n - 1 - 1 by omega]; exact h⟩
  · cases h
theorem step_k (l : List UInt8) (n : Nat) (h1 : 1 ≤ n) (h2 : n ≤ l.length) (hm : pp (l.take (n - 1)) = .more) :
    ((fc (l.take n)).2 = true ∧ kp l = ((fc (l.take n)).1, n, 1)) ∨
    ((fc (l.take n)).2 = false ∧ pp (l.take n) = .more ∧ ∃ e ∈ ends, (fc (l.take n ++ e)).2 = true) ∨
    ((fc (l.take n)).2 = false ∧ (∀ e ∈ ends, (fc (l.take n ++ e)).2 = false) ∧
      (((fc (l.take (n - 1) ++ [48, 48])).2 = true ∧ 1 < n ∧ (∃ key, l[n - 2]? = some key ∧ fr key = true) ∧ (fc (l.take (n - 1) ++ [48])).2 = false ∧ kp l = (cm0, min (n + 1) l.length, 2)) ∨
       ((fc (l.take (n - 1) ++ [48, 48])).2 = false ∧ kp l = (cm0, n, 2)))) := by
  have hs := pp_st _ hm
  have hq : l.take n = l.take (n - 1) ++ [l[n - 1]'(by omega)] := by
    have := List.take_append_getElem (l := l) (i := n - 1) (by omega)
    rw [show n - 1 + 1 = n by omega] at this
    exact this.symm
  have ho := hs.one (l[n - 1]'(by omega))
  rw [← hq] at ho
  have hE := pp_ext (l.take n) (l.drop n)
  rw [List.take_append_drop] at hE
  rcases hp : pp (l.take n) with _ | ⟨c, r⟩ | ⟨r, w⟩
  · refine .inr (.inl ⟨fc_no (fun c => by rw [hp]; simp), rfl, ?_⟩)
    obtain ⟨e, he, c, hc⟩ := (pp_st _ hp).may
    exact ⟨e, he, by rw [fc_yes hc]⟩
  · rw [hp] at ho hE
    obtain rfl : r = [] := ho
    refine .inl ⟨by rw [fc_yes hp], ?_⟩
    have hE' : pp l = .done c ([] ++ l.drop n) := hE
    unfold kp
    rw [hE', fc_yes hp]
    simp
    omega
  · rw [hp] at ho hE
    obtain rfl : r = [] := ho
    have hE' : pp l = .bad (if w = true then (l.drop n).drop 1 else [] ++ l.drop n) (w && (l.drop n).isEmpty) := hE
    refine .inr (.inr ⟨fc_no (fun c => by rw [hp]; simp), fun e _ => fc_no (fun c => ?_), ?_⟩)
    · have := pp_ext (l.take n) e
      rw [hp] at this
      have h' : pp (l.take n ++ e) = _ := this
      rw [h']
      simp
    · rcases hs.two with ⟨key, hk, ha, c, ht⟩ | ⟨hd1, hd2⟩
      · have hw : w = true := by
          have this : pp (l.take (n - 1) ++ [l[n - 1]'(by omega)]) = fin key c [l[n - 1]'(by omega)] := ht [l[n - 1]'(by omega)]
          rw [← hq, hp] at this
          unfold fin at this
          rw [ha] at this
          split at this
          · simp at this
            exact this
          · simp at this
        subst hw
        obtain ⟨hn, hl⟩ := last_at l n key hk h2
        refine .inl ⟨?_, hn, ⟨key, hl, fr_of ha⟩, fc_no (fun c' => ?_), ?_⟩
        · have h4 := ht [48, 48]
          have h5 : fin key c [48, 48] = .done { c with arg := [48, 48] } [] := by
            unfold fin
            rw [ha]
            rfl
          rw [h5] at h4
          rw [fc_yes h4]
        · have h4 := ht [48]
          have h5 : fin key c [48] = .more := by
            unfold fin
            rw [ha]
            rfl
          rw [h5] at h4
          simp only at h4
          rw [h4]
          simp
        · unfold kp
          rw [hE']
          simp
          omega
      · have hw : w = false := by
          rcases w with _ | _
          · rfl
          · exact absurd (hq ▸ hp) (hd2 _ _)
        subst hw
        refine .inr ⟨fc_no hd1, ?_⟩
        unfold kp
        rw [hE']
        simp
        omega
theorem kp_all (l : List UInt8) (h : pp l = .more) : kp l = (cm0, l.length, 0) := by unfold kp; rw [h]
end Go.Proofs.YtgkmjkjcdjkffaaDoor.Key
