/-
  PROVED HERE: what the law TypesOrders returns. Conditions: as each theorem states.
-/
import Derived.Test.YtpnjlmpamincoaaTnI
namespace Go.Proofs.Ytpnjlmpamincoaa.Tm
open Go.RowKit Go.Proofs.Ytpnjlmpamincoaa.Lex Go.Proofs.Ytpnjlmpamincoaa.Dig
theorem far_yes (s : ByteArray) (h : (900 < s.size ∧ s.size ≤ 3000) ∨ 3009 < s.size) (W : World) : Calls Try.prog 6 #[.string s] W fun e w' => e = .returned (.bool true) ∧ W = w' := by
  rcases h with ⟨h1, h2⟩ | h1
  · go_enter Try.func6, Try.ntmps6
    go_wp2_with fail
    go_ret
    exact ⟨ret_bool (by first | rfl | (simp; omega)), rfl⟩
  · have h3 : 900 < s.size := by omega
    have h4 : 3000 < s.size := by omega
    go_enter Try.func6, Try.ntmps6
    go_wp2_with fail
    go_ret
    exact ⟨ret_bool (by first | rfl | (simp; omega)), rfl⟩
theorem far_no (s : ByteArray) (h : s.size ≤ 900 ∨ (3000 < s.size ∧ s.size ≤ 3009)) (W : World) : Calls Try.prog 6 #[.string s] W fun e w' => e = .returned (.bool false) ∧ W = w' := by
  rcases h with h1 | ⟨h1, h2⟩
  · have h3 : s.size ≤ 3009 := by omega
    go_enter Try.func6, Try.ntmps6
    go_wp2_with fail
    go_ret
    exact ⟨ret_bool (by first | rfl | (simp; omega)), rfl⟩
  · have h3 : 900 < s.size := by omega
    go_enter Try.func6, Try.ntmps6
    go_wp2_with fail
    go_ret
    exact ⟨ret_bool (by first | rfl | (simp; omega)), rfl⟩
theorem own_small {w : World} {B E : Nat} {v : Value} {xs : List Value} (h : Own w B E v xs) : xs.length ≤ 9223372036854775807 := by
  rcases h.2 with ⟨_, h0⟩ | ⟨g, cap, cur, _, _, _, h4, h5, _⟩
  · omega
  · unfold maxLen at h5; omega
set_option maxRecDepth 100000 in
set_option maxHeartbeats 800000 in
theorem sameInts_own (a b : Value) (l : List Int) (W : World) {A B : Nat} (ha : Own W A 3 a (i64s l)) (hb : Own W B 3 b (i64s l)) :
    Calls Try.prog 10 #[a, b] W fun e w' => e = .returned (.bool true) ∧ Below W.heap.size W w' := by
  have hl := own_small ha
  rw [i64s_len] at hl
  obtain ⟨x, cx, rfl, hx⟩ := ha.ints
  obtain ⟨y, cy, rfl, hy⟩ := hb.ints
  have HX := Lib.hid hx
  have HY := Lib.hid hy
  clear hx hy ha hb
  go_enter Try.func10, Try.ntmps10
  go_wp2_with fail
  go_loopw [5] (fun i wr => ∃ k : Nat, k ≤ l.length ∧ i = .int .i64 k ∧ Below W.heap.size W wr) (fun i _ => l.length - (intOf i).toNat)
  case atStart => exact ⟨0, Nat.zero_le _, rfl, Below.refl _ _⟩
  case round =>
    obtain ⟨k, hk, rfl, hB⟩ := hrel
    have hBH := Lib.hid hB
    clear hB
    by_cases hlt : k < l.length
    · obtain ⟨ax, rfl, cx0⟩ := HX.out k hlt
      obtain ⟨ay, rfl, cy0⟩ := HY.out k hlt
      have c1 := (hBH.out.cell (p := ax.add k) (World.block_lt_of_cell? W _ cx0)).trans cx0
      have c2 := (hBH.out.cell (p := ay.add k) (World.block_lt_of_cell? W _ cy0)).trans cy0
      have i1 : (0 : Int) ≤ (k : Int) := by omega
      have i2 : (k : Int) < (l.length : Int) := by omega
      clear cx0 cy0
      generalize l[k] = z at *
      have hne : (z != z) = false := by simp
      go_wp2_with fail
      go_quiet (fail)
      go_wp2_with fail
      go_roundw
      case rel => exact ⟨k + 1, by omega, by go_num, below_drewN hBH.out _⟩
      case measure => simp [intOf]; omega
    · go_wp2_with fail
      go_ret
      exact ⟨rfl, hBH.out⟩
section
variable {W : World}
def OrdC (N : Nat) : Prop := ∀ (l : List It) (v : Value) (W : World), cl l < N → ItsAt W v l → WfL l → Fine l → l.length ≤ 16 → Calls Try.prog 5 #[v] W fun e w' => e = .returned (.bool true) ∧ Below W.heap.size W w'
theorem ci_mem {l : List It} {x : It} (h : x ∈ l) : ci x ≤ cl l := by
  induction l with
  | nil => simp at h
  | cons y r ih =>
    rw [cl]
    rcases List.mem_cons.1 h with rfl | h
    · omega
    · have := ih h; omega
set_option maxRecDepth 100000 in
set_option maxHeartbeats 2000000 in
theorem ordered_step (N : Nat) (IH : OrdC N) : OrdC (N + 1) := by
  intro l v W hN h hwf hfi hl
  obtain ⟨a, cap, rfl, hcap, _⟩ := id h
  have hW := wfL_mem hwf
  have hr : ∀ j (h : j < l.length), l[j].rule ≠ 0 → l[j].kind = 1 := fun j hj hr => (((wfI_iff _).1 (hW _ (List.getElem_mem hj))).1.ruled hr).1
  have HI := Lib.hid h
  have HW := Lib.hid hW
  have HF := Lib.hid hfi.all
  have HJ := Lib.hid IH
  have C1 := Lib.hid (order_any (W := W) _ l hl h hfi.all hr)
  have C2 := Lib.hid (fun w (hb : Below W.heap.size W w) => docOrder_any (W := w) _ l hl (h.below hb))
  clear h hwf hfi hW hr IH
  go_enter Try.func5, Try.ntmps5
  go_wp2_with fail
  refine (C1.out).mono ?_; rintro e w1 ⟨u1, rfl, ho1, hb⟩
  have B1 := Lib.hid hb
  have O1 := Lib.hid ho1
  have C3 := Lib.hid (C2.out w1 hb)
  clear hb ho1 C1 C2
  go_wp2_with fail
  refine (C3.out).mono ?_; rintro e w2 ⟨u2, rfl, ho2, hb⟩
  have B2 := Lib.hid (B1.out.trans (hb.mono B1.out.size))
  have C4 := Lib.hid (sameInts_own u1 u2 _ w2 (O1.out.below hb) ho2)
  clear hb ho2 C3 B1 O1
  go_wp2_with fail
  refine (C4.out).mono ?_; rintro e w3 ⟨rfl, hb⟩
  have B3 := Lib.hid (B2.out.trans (hb.mono B2.out.size))
  clear hb C4 B2
  go_wp2_with fail
  go_loopw [3] (fun i wr => ∃ k : Nat, i = .int .i64 k ∧ k ≤ l.length ∧ Hid (Below W.heap.size W wr)) (fun i _ => l.length - (intOf i).toNat)
  case atStart => exact ⟨0, rfl, Nat.zero_le _, B3⟩
  case round =>
    clear B3
    obtain ⟨k, rfl, hk, hB⟩ := hrel
    by_cases hlt : k < l.length
    · obtain ⟨b, o, cv, iv, rfl, hc, hit⟩ := its_at (HI.out.below hB.out) k hlt
      obtain ⟨⟨p8, rfl⟩, a12, c12, rfl⟩ := it_forms hit
      have i1 : (0 : Int) ≤ (k : Int) := by omega
      have i2 : (k : Int) < (l.length : Int) := by omega
      have z0 : wr.cell? ⟨b, o + k * 13, none⟩ = some (.int .i64 l[k].kind) := hc 0 _ rfl
      have z12 : wr.cell? ⟨b, o + k * 13 + 12, none⟩ = some (.slice a12 l[k].items.length c12) := hc 12 _ rfl
      have hwf := (wfI_iff _).1 (HW.out l[k] (List.getElem_mem hlt))
      have hci := ci_mem (List.getElem_mem hlt)
      rw [ci_eq] at hci
      have HC := Lib.hid (fun (h4 : l[k].kind = 4) => HJ.out l[k].items _ wr (by omega) ((itAt_iff _ _ _ _).1 hit).2 hwf.2 (HF.out.sub l[k] (List.getElem_mem hlt) h4) hwf.1.few)
      clear hc hit hwf hci
      generalize l[k] = x at *
      obtain ⟨kd, hkd⟩ : ∃ y, x.kind = y := ⟨_, rfl⟩
      rw [hkd] at z0 HC
      by_cases h4 : kd = 4
      · have HC2 := Lib.hid (HC.out h4)
        subst h4
        clear HC
        go_wp2_with fail
        refine (HC2.out).mono ?_; rintro e w4 ⟨rfl, hb⟩
        have B4 := Lib.hid (hB.out.trans (hb.mono hB.out.size))
        clear hb HC2
        go_wp2_with fail
        go_roundw
        case rel => exact ⟨k + 1, by go_num, hlt, B4⟩
        case measure => first | (simp [intOf]; done) | (simp [intOf]; omega)
      · have e4 : (kd == 4) = false := by simpa using h4
        clear HC h4
        go_wp2_with fail
        go_roundw
        case rel => exact ⟨k + 1, by go_num, hlt, hB⟩
        case measure => first | (simp [intOf]; done) | (simp [intOf]; omega)
    · have i2 : ¬ (k : Int) < (l.length : Int) := by omega
      go_wp2_with fail
      go_ret
      exact ⟨rfl, hB.out⟩
theorem ordered_all : ∀ N, OrdC N
  | 0 => fun _ _ _ h => absurd h (Nat.not_lt_zero _)
  | N + 1 => ordered_step N (ordered_all N)
/-- What right answers. -/
def RiP (W : World) (e : Ending) (w' : World) : Prop := ∃ (v : Value) (l : List Ty) (b : Bool), e = .returned (.tuple #[v, .bool b]) ∧ Below W.heap.size W w' ∧ (∃ a m k, v = .slice a m k) ∧ (b = true → l.length ≤ 8 ∧ (∀ t ∈ l, TyOk t ∧ Fine t.items) ∧ TysAt w' v l)
set_option maxRecDepth 100000 in
set_option maxHeartbeats 2000000 in
theorem right_any (s : ByteArray) (hM : Mx W) (hml : 0 < W.heap.size) : Calls Try.prog 4 #[.string s] W (RiP W) := by
  by_cases hf : (900 < s.size ∧ s.size ≤ 3000) ∨ 3009 < s.size
  · have F := Lib.hid (far_yes s hf)
    clear hf hM hml
    go_enter Try.func4, Try.ntmps4
    go_wp2_with fail
    refine (F.out _).mono ?_; rintro e w' ⟨rfl, rfl⟩
    go_wp2_with fail
    go_ret2
    exact ⟨_, [], false, rfl, Below.refl _ _, ⟨_, _, _, rfl⟩, fun h => by cases h⟩
  · have F := Lib.hid (far_no s (by omega))
    have HT := Lib.hid (tmpl_any (W := W) s (by omega) (by omega) hM hml)
    clear hf hM hml
    go_enter Try.func4, Try.ntmps4
    go_wp2_with fail
    refine (F.out _).mono ?_; rintro e w' ⟨rfl, rfl⟩
    go_wp2_with fail
    refine (HT.out).mono ?_; rintro e w1 ⟨v, l, c, p, rfl, hb, ⟨va, vn, vc, rfl⟩, hl⟩
    have B1 := Lib.hid hb
    have HL := Lib.hid hl
    clear hb hl HT F
    go_wp2_with fail
    have hbA := (Below.refl w1.heap.size w1).alloc (Nat.le_refl _) (.cells #[.int .i64 c, .int .i64 p] 32)
    have B2 := Lib.hid (B1.out.trans (hbA.mono B1.out.size))
    have K2 := Lib.hid hbA
    clear hbA
    generalize w1.alloc (.cells #[.int .i64 c, .int .i64 p] 32) = w2 at *
    refine (is_any c p _).mono ?_; rintro e w3 ⟨rfl, hb⟩
    have B3 := Lib.hid (B2.out.trans (hb.mono B2.out.size))
    have K3 := Lib.hid (K2.out.trans (hb.mono K2.out.size))
    clear hb B2 K2
    by_cases hc : c = 0
    · subst hc
      obtain ⟨hl8, hty, htf⟩ := HL.out rfl
      have HY := Lib.hid (show TysAt w3 (.slice va vn vc) l from TysAt.below (Fw.now htf) K3.out)
      have HC := Lib.hid (check_any (W := w3) _ l hl8 HY.out hty)
      have HTY := Lib.hid hty
      clear hty htf HL K3
      obtain ⟨⟨f1, f2⟩, hf⟩ : ∃ f, checkF l (fun _ => false) = f := ⟨_, rfl⟩
      rw [hf] at HC
      have HF := Lib.hid (show f1 = 0 → ∀ t ∈ l, Fine t.items from fun e => fine_of (T := fun _ => false) (by rw [hf]; exact e))
      have hflv : flV (f1, f2) = .agg #[.int .i64 f1, .int .i64 f2] := rfl
      rw [hflv] at HC
      have e0 : ((0 : Int) == 0) = true := rfl
      rw [e0]
      clear hf hflv e0
      go_wp2_with fail
      refine (HC.out).mono ?_; rintro e w4 ⟨rfl, hb⟩
      have B4 := Lib.hid (B3.out.trans (hb.mono B3.out.size))
      have Y4 := Lib.hid (HY.out.below hb)
      clear hb HC HY
      go_wp2_with fail
      refine (is_any f1 f2 _).mono ?_; rintro e w5 ⟨rfl, hb⟩
      have B5 := Lib.hid (B4.out.trans (hb.mono B4.out.size))
      have Y5 := Lib.hid (Y4.out.below hb)
      obtain ⟨bf, hbf⟩ : ∃ b, (f1 == 0) = b := ⟨_, rfl⟩
      rw [hbf]
      have HBF := Lib.hid hbf
      clear hb hbf
      go_wp2_with fail
      go_ret2
      exact ⟨_, l, bf, rfl, B5.out, ⟨_, _, _, rfl⟩, fun h => ⟨hl8, fun t ht => ⟨HTY.out t ht, HF.out (by have := HBF.out; rw [h] at this; simpa using this) t ht⟩, Y5.out⟩⟩
    · have e0 : (c == 0) = false := by simpa using hc
      rw [e0]
      clear hc e0
      go_wp2_with fail
      go_ret2
      exact ⟨_, [], false, rfl, B3.out, ⟨_, _, _, rfl⟩, fun h => by cases h⟩
set_option maxRecDepth 100000 in
set_option maxHeartbeats 2000000 in
theorem orders_walk (s : ByteArray) (W : World) (hx : Mx W) : Calls Try.prog 3 #[.string s] W fun e w' => e = .returned (.bool true) ∧ Below W.heap.size W w' := by
  have hml : 0 < W.heap.size := by
    obtain ⟨m, hm⟩ := hx
    exact World.block_lt_of_cell? W _ hm
  have HR := Lib.hid (right_any s hx hml)
  clear hx hml
  go_enter Try.func3, Try.ntmps3
  go_wp2_with fail
  refine (HR.out).mono ?_; rintro e w1 ⟨v, l, bf, rfl, hb, ⟨va, vn, vc, rfl⟩, hl⟩
  have B1 := Lib.hid hb
  clear hb HR
  cases bf with
  | false =>
    clear hl
    go_wp2_with fail
    go_loopw [5] (fun i wr => (∃ k : Nat, i = .int .i64 k) ∧ Hid (Below W.heap.size W wr)) (fun _ _ => 0)
    case atStart => exact ⟨⟨0, rfl⟩, B1⟩
    case round =>
      clear B1
      obtain ⟨⟨k, rfl⟩, hB⟩ := hrel
      go_wp2_with fail
      go_ret
      exact ⟨rfl, hB.out⟩
  | true =>
    obtain ⟨hl8, hty, hY⟩ := hl rfl
    obtain ⟨a', c', e, hcap, _⟩ := id hY
    simp only [Value.slice.injEq] at e
    obtain ⟨rfl, rfl, rfl⟩ := e
    have HY := Lib.hid hY
    have HT := Lib.hid hty
    have BW := Lib.hid (Below.refl w1.heap.size w1)
    clear hl hty hY
    go_wp2_with fail
    go_loopw [5] (fun i wr => ∃ k : Nat, i = .int .i64 k ∧ k ≤ l.length ∧ Hid (Below w1.heap.size w1 wr)) (fun i _ => l.length - (intOf i).toNat)
    case atStart => exact ⟨0, rfl, Nat.zero_le _, BW⟩
    case round =>
      clear BW
      obtain ⟨k, rfl, hk, hB⟩ := hrel
      by_cases hlt : k < l.length
      · obtain ⟨b, o, iv, rfl, z0, z1, z2, hit⟩ := tys_at (HY.out.below hB.out) k hlt
        obtain ⟨a12, c12, rfl, _, _⟩ := id hit
        have i1 : (0 : Int) ≤ (k : Int) := by omega
        have i2 : (k : Int) < (l.length : Int) := by omega
        obtain ⟨hok, hfi⟩ := HT.out l[k] (List.getElem_mem hlt)
        have HC := Lib.hid (ordered_all _ l[k].items _ wr (Nat.lt_succ_self _) hit hok.1 hfi hok.2.1)
        clear hit hok hfi z0 z1
        generalize l[k] = x at *
        go_wp2_with fail
        refine (HC.out).mono ?_; rintro e w4 ⟨rfl, hb⟩
        have B4 := Lib.hid (hB.out.trans (hb.mono hB.out.size))
        clear hb HC
        go_wp2_with fail
        go_roundw
        case rel => exact ⟨k + 1, by go_num, hlt, B4⟩
        case measure => first | (simp [intOf]; done) | (simp [intOf]; omega)
      · have i2 : ¬ (k : Int) < (l.length : Int) := by omega
        go_wp2_with fail
        go_ret
        exact ⟨rfl, B1.out.trans (hB.out.mono B1.out.size)⟩
end
end Go.Proofs.Ytpnjlmpamincoaa.Tm
