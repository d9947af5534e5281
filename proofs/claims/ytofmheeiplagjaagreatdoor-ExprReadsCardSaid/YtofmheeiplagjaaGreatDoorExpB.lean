/-
  PROVED HERE: the program's reader of tokens in memory, and the contracts of its methods. Conditions: as each theorem states.
-/
import Derived.Test.YtofmheeiplagjaaGreatDoorExpA
namespace Go.Proofs.YtofmheeiplagjaaGreatDoor.Tm
open Go.RowKit Go.Proofs.YtofmheeiplagjaaGreatDoor.Lex Go.Proofs.YtofmheeiplagjaaGreatDoor.Dig
/-- The reader in the block G, at the end E of the text; nothing is wrong. -/
structure RS (G E : Nat) (lv : Value) (σ : Ey) (w : World) : Prop where
  ok : σ.c = 0
  c0 : w.cell? ⟨G, 0, none⟩ = some lv
  c1 : w.cell? ⟨G, 1, none⟩ = some (.int .i64 (E : Nat))
  fz : ∀ j, w.frozen? ⟨G, j, none⟩ = false
  tk : Tks w lv σ.l
  nb : σ.l ≠ [] → ∀ k, lv.ownBlock = some k → k < G
  lt : G < w.heap.size
theorem RS.cap {G E : Nat} {lv : Value} {σ : Ey} {w : World} (h : RS G E lv σ w) : ∃ a c, lv = .slice a σ.l.length c ∧ σ.l.length ≤ c := by
  obtain ⟨a, c, e, hl, _⟩ := h.tk
  exact ⟨a, c, e, hl⟩
theorem RS.below {G E : Nat} {lv : Value} {σ : Ey} {w w' : World} (h : RS G E lv σ w) (hb : Below w.heap.size w w') : RS G E lv σ w' :=
  ⟨h.ok, (hb.cell (p := ⟨G, 0, none⟩) h.lt).trans h.c0, (hb.cell (p := ⟨G, 1, none⟩) h.lt).trans h.c1, fun j => by
    rw [World.frozen?_of_block (a := ⟨G, j, none⟩) (hb.block G h.lt)]; exact h.fz j, tks_kept h.tk (fun hl k hk => hb.block k (tks_room h.tk hl k hk)), h.nb, Nat.lt_of_lt_of_le h.lt hb.size⟩
/-- The tokens, one less. -/
theorem RS.next {G E : Nat} {ad : Addr} {n cap : Nat} {σ : Ey} {t : Tk} {r : List Tk} {w : World} (h : RS G E (.slice (some ad) (n + 1) cap) σ w) (hl : σ.l = t :: r) (a : Option Addr) (ha : a = if cap = 1 then some ad else some ⟨ad.block, ad.off + 2, none⟩) : RS G E (.slice a n (cap - 1)) ⟨σ.c, σ.a, r⟩ (w.setCell ⟨G, 0, none⟩ (.slice a n (cap - 1))) := by
  have hs : (w.setCell ⟨G, 0, none⟩ (.slice a n (cap - 1))).heap.size = w.heap.size := by simp [World.setCell]
  have hob : (Value.slice a n (cap - 1)).ownBlock = some ad.block := by subst ha; by_cases hc : cap = 1 <;> simp [hc, Value.ownBlock]
  have hnl : ad.block < G := h.nb (by rw [hl]; simp) _ rfl
  have hnb : ad.block ≠ G := Nat.ne_of_lt hnl
  have htk : Tks w (.slice a n (cap - 1)) r := by
    obtain ⟨a', c, e, hcl, hc⟩ := h.tk
    simp only [hl] at e hcl hc
    simp only [Value.slice.injEq, List.length_cons, Nat.add_right_cancel_iff] at e
    obtain ⟨rfl, rfl, rfl⟩ := e
    rw [List.length_cons] at hcl
    refine ⟨_, _, rfl, by omega, fun j hj => ?_⟩
    rw [if_neg (by omega)] at ha
    obtain ⟨ad', h1, h2, h3⟩ := hc (j + 1) (by rw [List.length_cons]; omega)
    cases h1
    simp only [List.getElem_cons_succ] at h2 h3
    refine ⟨_, ha, ?_, ?_⟩
    · rw [add_two, show 2 + j * 2 = (j + 1) * 2 by omega]; exact h2
    · rw [add_two, show 2 + (j * 2 + 1) = (j + 1) * 2 + 1 by omega]; exact h3
  refine ⟨h.ok, World.cell?_setCell_same _ _ _ h.c0, ?_, fun j => by rw [frozen?_setCell]; exact h.fz j, ?_, fun _ k hk => by rw [hob] at hk; cases hk; exact hnl, by rw [hs]; exact h.lt⟩
  · rw [World.cell?_setCell_other _ _ _ _ (by simp)]; exact h.c1
  · refine tks_kept htk fun _ k hk => ?_
    rw [hob] at hk
    cases hk
    exact Below.heap_setCell _ _ _ _ hnb
/-- The error f was thrown by a reader. -/
def LThr (w' : World) (f : Int × Int) (e : Ending) : Prop := ∃ b, e = .panicked [{ v := .iface 110 (.agg #[.iface 76 (.pointer (some ⟨b, 0, none⟩))]), recovered := false }] ∧ w'.cell? ⟨b, 0, none⟩ = some (.int .i64 f.1) ∧ w'.cell? ⟨b, 1, none⟩ = some (.int .i64 f.2)
/-- What comes of a function on the reader: it returns, or it throws what is wrong. -/
def RdP (G E : Nat) (σ' : Ey) (r : Ending) (W : World) (e : Ending) (w' : World) : Prop :=
  W.grownBy w' (some G) ∧ ((e = r ∧ ∃ lv, RS G E lv σ' w') ∨ (σ'.c ≠ 0 ∧ LThr w' (σ'.c, σ'.a) e))
section
variable {G E : Nat} {lv : Value} {σ : Ey} {W : World}
set_option maxRecDepth 100000 in
theorem Fail_any (v : Value) (n k : Int) : Calls Tryz.prog 30 #[v, .int .i64 n, .int .i64 k] W fun e w' => LThr w' (n, k) e ∧ Below W.heap.size W w' := by
  go_enter Tryz.func30, Tryz.ntmps30
  go_wp2_with fail
  exact ⟨rfl, ⟨W.heap.size, rfl, by simp, by simp⟩, (Below.refl _ _).alloc (Nat.le_refl _) _⟩
set_option maxRecDepth 100000 in
theorem At_any (h : RS G E lv σ W) : Calls Tryz.prog 31 #[.pointer (some ⟨G, 0, none⟩)] W fun e w' => e = .returned (.int .i64 (pos E σ : Nat)) ∧ Below W.heap.size W w' := by
  have c0 := h.c0
  have c1 := h.c1
  have ht := h.tk
  obtain ⟨a, cp, rfl, -⟩ := h.cap
  clear h
  unfold pos
  cases hl : σ.l with
  | nil =>
    rw [hl] at c0 ht
    go_enter Tryz.func31, Tryz.ntmps31
    go_wp2_with fail
    go_ret
    exact ⟨rfl, Below.refl _ _⟩
  | cons t r =>
    rw [hl] at c0 ht
    obtain ⟨ad, rfl, d0, d1⟩ := ht.at_ 0 (by simp)
    simp only [List.getElem_cons_zero] at d0 d1
    rw [Nat.zero_mul, add_zero0] at d0 d1
    have n1 : ((r.length : Int) + 1 == 0) = false := by rw [beq_eq_false_iff_ne]; omega
    clear ht hl
    go_enter Tryz.func31, Tryz.ntmps31
    go_wp2_with fail
    go_ret
    exact ⟨rfl, Below.refl _ _⟩
set_option maxRecDepth 100000 in
theorem Text_any (h : RS G E lv σ W) : Calls Tryz.prog 29 #[.pointer (some ⟨G, 0, none⟩)] W fun e w' => e = .returned (.string (txt σ)) ∧ Below W.heap.size W w' := by
  have c0 := h.c0
  have ht := h.tk
  have hok := h.ok
  obtain ⟨a, cp, rfl, -⟩ := h.cap
  clear h
  cases hl : σ.l with
  | nil =>
    rw [txt_nil hl]
    rw [hl] at c0 ht
    unfold emp
    go_enter Tryz.func29, Tryz.ntmps29
    go_wp2_with fail
    go_ret
    exact ⟨rfl, Below.refl _ _⟩
  | cons t r =>
    rw [txt_cons hok hl]
    rw [hl] at c0 ht
    obtain ⟨ad, rfl, d0, d1⟩ := ht.at_ 0 (by simp)
    simp only [List.getElem_cons_zero] at d0 d1
    rw [Nat.zero_mul, add_zero0] at d0 d1
    have n1 : ((r.length : Int) + 1 == 0) = false := by rw [beq_eq_false_iff_ne]; omega
    clear ht hl
    go_enter Tryz.func29, Tryz.ntmps29
    go_wp2_with fail
    go_ret
    exact ⟨rfl, Below.refl _ _⟩
theorem pass_ok {σ : Ey} (h : txt σ ≠ emp) : pass E σ = ⟨σ.c, σ.a, σ.l.tail⟩ := if_neg h
theorem RS.some_ {t : Tk} {r : List Tk} {w : World} {a : Option Addr} {n c : Nat} (h : RS G E (.slice a n c) σ w) (hl : σ.l = t :: r) : ∃ ad, a = some ad := by
  obtain ⟨a', c', e, _, hc⟩ := h.tk
  rw [hl] at hc
  simp only [Value.slice.injEq] at e
  obtain ⟨rfl, _⟩ := e
  obtain ⟨ad, h1, _⟩ := hc 0 (by simp)
  exact ⟨ad, h1⟩
set_option maxRecDepth 100000 in
theorem Pass_any (h : RS G E lv σ W) : Calls Tryz.prog 68 #[.pointer (some ⟨G, 0, none⟩)] W (RdP G E (pass E σ) (.returned (.string (txt σ))) W) := by
  have C := Lib.hid (Text_any h)
  have HT := Lib.hid (fun w' hb => (h.below (w' := w') hb))
  by_cases he : txt σ = emp
  · have hw : pass E σ = ⟨3, (pos E σ : Nat), σ.l⟩ := by unfold pass wrong; rw [if_pos he, if_pos h.ok]
    rw [hw]
    rw [he] at C ⊢
    clear h he hw
    go_enter Tryz.func68, Tryz.ntmps68
    go_wp2_with fail
    refine (C.out).mono ?_; rintro e w1 ⟨rfl, hb⟩
    have h2 := Lib.hid (HT.out w1 hb)
    have HB := Lib.hid hb
    clear hb HT
    unfold emp
    go_wp2_with fail
    refine (At_any h2.out).mono ?_; rintro e w2 ⟨rfl, hb⟩
    have HB2 := Lib.hid (HB.out.trans (hb.mono HB.out.size))
    clear hb HB
    go_wp2_with fail
    refine (Fail_any _ _ _).mono ?_; rintro e w3 ⟨⟨b9, rfl, q0, q1⟩, hb⟩
    have HS := Lib.hid (HB2.out.trans (hb.mono HB2.out.size))
    have T9 := Lib.hid (show LThr w3 (3, (pos E σ : Nat)) _ from ⟨b9, rfl, q0, q1⟩)
    clear hb q0 q1
    go_wp2_with fail
    exact ⟨rfl, gb_below _ HS.out, .inr ⟨show (3 : Int) ≠ 0 by decide, T9.out⟩⟩
  · obtain ⟨hc, t, r, hl, ht⟩ := txt_some he
    rw [pass_ok he]
    have hs0 : 0 < (txt σ).size := by
      rcases Nat.eq_zero_or_pos (txt σ).size with e | e
      · exact absurd (emp_iff.2 e) he
      · exact e
    have t2 := str_full (txt σ) hs0
    rw [hl, List.tail_cons]
    obtain ⟨s, hs⟩ : ∃ s, txt σ = s := ⟨_, rfl⟩
    rw [hs] at C t2 ⊢
    obtain ⟨a, cp, rfl, hcp⟩ := h.cap
    rw [hl, List.length_cons] at hcp HT
    obtain ⟨n, hn⟩ : ∃ n, r.length = n := ⟨_, rfl⟩
    have HL := Lib.hid hl
    have hcp2 : n + 1 ≤ cp := by omega
    clear h he hc ht hs hs0 hl hcp
    rw [hn] at HT
    go_enter Tryz.func68, Tryz.ntmps68
    go_wp2_with fail
    refine (C.out).mono ?_; rintro e w1 ⟨rfl, hb⟩
    have h2 := Lib.hid (HT.out w1 hb)
    have HB := Lib.hid (gb_below (some G) hb)
    clear hb HT
    obtain ⟨ad, rfl⟩ := h2.out.some_ HL.out
    have c0 := h2.out.c0
    have f0 := h2.out.fz 0
    obtain ⟨A, hA⟩ : ∃ A, (if cp = 1 then some ad else some (⟨ad.block, ad.off + 2, none⟩ : Addr)) = A := ⟨_, rfl⟩
    have HN := Lib.hid (h2.out.next HL.out A hA.symm)
    go_wp2_with fail
    go_ret
    exact ⟨gb_trans HB.out gb_set, .inl ⟨rfl, _, HN.out⟩⟩
set_option maxRecDepth 100000 in
theorem Take_any (h : RS G E lv σ W) (s : ByteArray) (hs : 0 < s.size) : Calls Tryz.prog 65 #[.pointer (some ⟨G, 0, none⟩), .string s] W fun e w' => e = .returned (.bool (decide (txt σ = s))) ∧ (∃ lv', RS G E lv' (take E σ s) w') ∧ W.grownBy w' (some G) := by
  have C := Lib.hid (Text_any h)
  have HT := Lib.hid (fun w' hb => (h.below (w' := w') hb))
  unfold take
  have t2 := str_full s hs
  by_cases he : txt σ = s
  · have hne : txt σ ≠ emp := fun e => by rw [he] at e; rw [emp_iff.1 e] at hs; omega
    rw [if_pos he, decide_eq_true he, pass_ok hne]
    have e1 : ((txt σ).toList == s.toList) = true := (Go.Lib.bytes_beq_iff _ _).2 he
    obtain ⟨hc, t, r, hl, ht⟩ := txt_some hne
    rw [hl, List.tail_cons]
    obtain ⟨a, cp, rfl, hcp⟩ := h.cap
    rw [hl, List.length_cons] at hcp HT
    obtain ⟨n, hn⟩ : ∃ n, r.length = n := ⟨_, rfl⟩
    have HL := Lib.hid hl
    have hcp2 : n + 1 ≤ cp := by omega
    clear h he hc ht hs hl hcp hne
    rw [hn] at HT
    go_enter Tryz.func65, Tryz.ntmps65
    go_wp2_with fail
    refine (C.out).mono ?_; rintro e w1 ⟨rfl, hb⟩
    have h2 := Lib.hid (HT.out w1 hb)
    have HB := Lib.hid (gb_below (some G) hb)
    clear hb HT
    obtain ⟨ad, rfl⟩ := h2.out.some_ HL.out
    have c0 := h2.out.c0
    have f0 := h2.out.fz 0
    obtain ⟨A, hA⟩ : ∃ A, (if cp = 1 then some ad else some (⟨ad.block, ad.off + 2, none⟩ : Addr)) = A := ⟨_, rfl⟩
    have HN := Lib.hid (h2.out.next HL.out A hA.symm)
    go_wp2_with fail
    go_ret
    exact ⟨rfl, ⟨_, HN.out⟩, gb_trans HB.out gb_set⟩
  · rw [if_neg he, decide_eq_false he]
    have e1 : ((txt σ).toList == s.toList) = false := (Go.Lib.bytes_beq_false_iff _ _).2 he
    clear h he
    go_enter Tryz.func65, Tryz.ntmps65
    go_wp2_with fail
    refine (C.out).mono ?_; rintro e w1 ⟨rfl, hb⟩
    have h2 := Lib.hid (HT.out w1 hb)
    have HB := Lib.hid (gb_below (some G) hb)
    clear hb HT
    go_wp2_with fail
    go_ret
    exact ⟨rfl, ⟨_, h2.out⟩, HB.out⟩
set_option maxRecDepth 100000 in
theorem Must_any (h : RS G E lv σ W) (s : ByteArray) (hs : 0 < s.size) : Calls Tryz.prog 45 #[.pointer (some ⟨G, 0, none⟩), .string s] W (RdP G E (must E σ s) (.returned (.tuple #[])) W) := by
  have C := Lib.hid (Take_any h s hs)
  by_cases he : txt σ = s
  · have hm : must E σ s = take E σ s := by unfold must take; rw [if_pos he, if_pos he]
    rw [hm]
    rw [decide_eq_true he] at C
    clear h he hs hm
    go_enter Tryz.func45, Tryz.ntmps45
    go_wp2_with fail
    refine (C.out).mono ?_; rintro e w1 ⟨rfl, hs, hg⟩
    have HS := Lib.hid hs
    have HG := Lib.hid hg
    clear hs hg
    go_wp2_with fail
    go_end0
    exact ⟨HG.out, .inl ⟨rfl, HS.out⟩⟩
  · have hm : must E σ s = ⟨3, (pos E σ : Nat), σ.l⟩ := by unfold must wrong; rw [if_neg he, if_pos h.ok]
    have ht : take E σ s = σ := if_neg he
    rw [hm]
    rw [decide_eq_false he, ht] at C
    clear h he hs hm ht
    go_enter Tryz.func45, Tryz.ntmps45
    go_wp2_with fail
    refine (C.out).mono ?_; rintro e w1 ⟨rfl, ⟨lv2, hp⟩, hg⟩
    have HP := Lib.hid hp
    have HB := Lib.hid hg
    clear hp hg
    go_wp2_with fail
    refine (At_any HP.out).mono ?_; rintro e w2 ⟨rfl, hb⟩
    have HB2 := Lib.hid (gb_trans HB.out (gb_below (some G) hb))
    clear hb HB
    go_wp2_with fail
    refine (Fail_any _ _ _).mono ?_; rintro e w3 ⟨⟨b9, rfl, q0, q1⟩, hb⟩
    have HS := Lib.hid (gb_trans HB2.out (gb_below (some G) hb))
    have T9 := Lib.hid (show LThr w3 (3, (pos E σ : Nat)) _ from ⟨b9, rfl, q0, q1⟩)
    clear hb q0 q1
    go_wp2_with fail
    exact ⟨rfl, HS.out, .inr ⟨show (3 : Int) ≠ 0 by decide, T9.out⟩⟩
end
end Go.Proofs.YtofmheeiplagjaaGreatDoor.Tm
