/-
  PROVED HERE: the contract of the document's FindNext. Conditions: as each theorem states.
-/
import Derived.Test.YtifnochpmlllgaaDoorAllD
import Derived.Laws.AppendOwnNone
namespace Go.Proofs.YtifnochpmlllgaaDoor.All
open Go.RowKit
section
variable {P : Program} {w : World}
/-- append of all of a list of the call's own. -/
theorem own_appendl {ops : Array Oper} {rest : List Oper} {o : Oper} {a : Act} {Q : Exit → Act → World → Prop} (hgd : o.guard = none) (s x : Operand) (t : TypeId)
    (ho : o.op = .call { callee := .builtin .append, args := #[s, x], argTypes := #[t, t] })
    (B E : Nat) (z : Value) (bytes : Nat) (ht : P.underlying t = some (.slice E)) (hinfo : (P.info? E).map (fun i => (i.zero, i.size, i.bytes)) = some (some z, 1, bytes)) (hzs : z.cells.size = 1)
    (v : Value) (xs : List Value) (hs : a.eval s = v) (hown : Own w B E v xs) (y : Value) (ys : List Value) (hx : a.eval x = y) (hy : Own w B E y ys) (h1 : ∀ u ∈ ys, u.oneCell' = true)
    (hlen : (xs.length + ys.length) * bytes ≤ 1000000000000) (hlen2 : xs.length + ys.length ≤ 1000000000000) (hbase : B ≤ w.heap.size)
    (h : ∀ v' w', Own w' B E v' (xs ++ ys) → Below B w w' → wpList P ops Q rest (a.put o.dst v') w') : wpList P ops Q (o :: rest) a w := by
  rcases hy.form with ⟨rfl, rfl⟩ | ⟨g, cap, rfl, _, _, hc, _⟩
  · obtain ⟨i, hi, _⟩ := info_parts hinfo
    exact wpList_append_own_none hgd s x t ho B E i 1 ht hi v xs.length xs hs hown hx (h v w (by rw [List.append_nil]; exact hown) (Below.refl _ _))
  · refine own_append hgd s x t ho B E z bytes ht hinfo hzs v xs hs hown ⟨g, 0, none⟩ ys.length cap ys hx rfl (fun j u hj => ?_) h1 hlen hlen2 hbase (fun v' w' a1 _ a3 _ => h v' w' a1 a3)
    obtain ⟨hj1, hj2⟩ := List.getElem?_eq_some_iff.1 hj
    rw [Addr.add_mid, Nat.zero_add, hc j hj1, hj2]
end
/-- Two lists lie in two blocks. -/
def Ds (a b : Value) : Prop := a.ownBlock = none ∨ b.ownBlock = none ∨ a.ownBlock ≠ b.ownBlock
theorem Ds.comm {a b : Value} (h : Ds a b) : Ds b a := by
  rcases h with h | h | h
  · exact .inr (.inl h)
  · exact .inl h
  · exact .inr (.inr (fun e => h e.symm))
theorem Ds.ne {a b : Value} (h : Ds a b) : a.ownBlock = none ∨ a.ownBlock ≠ b.ownBlock := by
  rcases h with h | h | h
  · exact .inl h
  · cases e : a.ownBlock with
    | none => exact .inl rfl
    | some k => exact .inr (by rw [h]; simp)
  · exact .inr h
theorem Ds.next {w : World} {B E : Nat} {a b a' : Value} {xs : List Value} (h : Ds a b) (hb : Own w B E b xs) (hat : a'.ownBlock = a.ownBlock ∨ a'.ownBlock = some w.heap.size) : Ds a' b := by
  rcases hat with e | e
  · unfold Ds at h ⊢; rw [e]; exact h
  · cases eb : b.ownBlock with
    | none => exact .inr (.inl eb)
    | some k =>
      refine .inr (.inr ?_)
      rw [e, eb]
      have := (hb.lt k eb).2
      intro h2
      injection h2 with h2
      omega
theorem take_filter (q : Int → Bool) (l : List Int) (k : Nat) (h : k < l.length) : (l.take (k + 1)).filter q = (l.take k).filter q ++ if q l[k] = true then [l[k]] else [] := by
  rw [List.take_succ_eq_append_getElem h, List.filter_append]
  congr 1
  by_cases hq : q l[k] = true
  · rw [if_pos hq]; simp [hq]
  · rw [if_neg hq]; simp [hq]
def lo (l : List Int) (f : Int) (k : Nat) : List Int := (l.take k).filter fun x => decide (x < f)
def hi (l : List Int) (f : Int) (k : Nat) : List Int := (l.take k).filter fun x => decide (f ≤ x)
theorem lo_len (l : List Int) (f : Int) (k : Nat) : (lo l f k).length ≤ l.length := by
  unfold lo
  refine Nat.le_trans (List.length_filter_le _ _) ?_
  rw [List.length_take]; omega
theorem hi_len (l : List Int) (f : Int) (k : Nat) : (hi l f k).length ≤ l.length := by
  unfold hi
  refine Nat.le_trans (List.length_filter_le _ _) ?_
  rw [List.length_take]; omega
theorem rd_eq (l : List Int) (f : Int) : rd l f = hi l f l.length ++ lo l f l.length := by
  unfold rd hi lo
  rw [List.take_length]
theorem i64s_app (a b : List Int) : i64s a ++ i64s b = i64s (a ++ b) := by simp [i64s]
theorem i64s_one (l : List Int) : ∀ u ∈ i64s l, u.oneCell' = true := by
  intro u hu
  unfold i64s at hu
  rw [List.mem_map] at hu
  obtain ⟨x, _, rfl⟩ := hu
  rfl
def Fo (l : List Int) (f : Int) (w1 : World) (va vb iv : Value) (wr : World) : Prop :=
  ∃ k : Nat, k ≤ l.length ∧ iv = .int .i64 k ∧ (∃ a c, va = .slice a (lo l f k).length c) ∧ (∃ a c, vb = .slice a (hi l f k).length c) ∧ Hid (Own wr w1.heap.size 3 va (i64s (lo l f k))) ∧ Hid (Own wr w1.heap.size 3 vb (i64s (hi l f k))) ∧ Hid (Ds va vb) ∧ Hid (Below w1.heap.size w1 wr)
def DN (v c : Int) (W : World) (e : Ending) (w' : World) : Prop := e = .returned (.tuple #[.int .i64 v, .int .i64 c]) ∧ Below W.heap.size W w'
set_option maxRecDepth 100000 in
set_option maxHeartbeats 2000000 in
theorem docNext_no (s : ByteArray) (f : Int) (on : Bool) (W : World) :
    Calls Tryd.prog 56 #[.string s, .string ⟨#[]⟩, .int .i64 f, .bool on] W (DN 0 1 W) := by
  have CB := Lib.hid (docAll_no s)
  go_enter Tryd.func56, Tryd.ntmps56
  go_wp2_with fail
  refine (CB.out _).mono ?_; rintro e w1 ⟨v, rfl, hI, h1⟩
  have H1 := Lib.hid h1
  clear CB h1
  go_wp2_with fail
  go_ret2
  exact ⟨rfl, H1.out⟩
def ans (l : List Int) (f : Int) (on : Bool) : Int := if on then nv l f else pw l f
set_option maxRecDepth 100000 in
set_option maxHeartbeats 2000000 in
theorem docNext_yes (s p : ByteArray) (f : Int) (on : Bool) (hs : s.size ≤ 1000) (hp1 : 1 ≤ p.size) (hp : p.size ≤ 1000) (W : World) :
    Calls Tryd.prog 56 #[.string s, .string p, .int .i64 f, .bool on] W (DN (ans (al s p s.size) f on) (nc (al s p s.size)) W) := by
  have CB := Lib.hid (docAll_yes s p hs hp1 hp)
  have hll := al_len s p s.size
  generalize al s p s.size = l at *
  go_enter Tryd.func56, Tryd.ntmps56
  go_wp2_with fail
  refine (CB.out _).mono ?_; rintro e w1 ⟨v, rfl, hI, h1⟩
  have H1 := Lib.hid h1
  obtain ⟨a, cap, rfl, hc⟩ := hI
  have hcH := Lib.hid hc
  clear CB h1 hc
  by_cases hl : l = []
  · subst hl
    go_wp2_with fail
    go_ret2
    cases on <;> exact ⟨rfl, H1.out⟩
  · have hl1 : 1 ≤ l.length := by cases l; exact absurd rfl hl; simp
    have hlH := Lib.hid hl
    have b0 : ((l.length : Int) == 0) = false := by rw [beq_eq_false_iff_ne]; omega
    clear hl
    go_wp2_with fail
    go_loopw [12, 13, 31] (fun va vb i wr => Fo l f w1 va vb i wr) (fun _ _ i _ => l.length - (intOf i).toNat)
    case atStart => exact ⟨0, by omega, rfl, ⟨none, 0, rfl⟩, ⟨none, 0, rfl⟩, Lib.hid (own_nil _ _ _), Lib.hid (own_nil _ _ _), Lib.hid (.inl rfl), Lib.hid (Below.refl _ _)⟩
    case round =>
      obtain ⟨k, hk, rfl, ⟨a1, c1, rfl⟩, ⟨a2, c2, rfl⟩, hoa, hob, hD, hBH⟩ := hrel
      have ll1 := lo_len l f k
      have ll2 := hi_len l f k
      by_cases hlt : k < l.length
      · obtain ⟨ad, rfl, hc0⟩ := hcH.out k hlt
        have hck := (hBH.out.cell (p := ad.add k) (World.block_lt_of_cell? _ _ hc0)).trans hc0
        have S1 := Lib.hid (take_filter (fun x => decide (x < f)) l k hlt)
        have S2 := Lib.hid (take_filter (fun x => decide (f ≤ x)) l k hlt)
        clear hc0
        generalize l[k] = x at *
        by_cases hq : x < f
        · have M1 : Hid (lo l f (k + 1) = lo l f k ++ [x]) := Lib.hid (by unfold lo; rw [S1.out, if_pos (decide_eq_true hq)])
          have M2 : Hid (hi l f (k + 1) = hi l f k) := Lib.hid (by unfold hi; rw [S2.out, if_neg (by simpa using hq), List.append_nil])
          clear S1 S2
          go_wp2_with (at_builtin; refine own_append1 rfl _ _ 50 rfl w1.heap.size 3 (.int .i64 0) 8 Tryd.underlying50 (by kernel_rfl) rfl _ _ rfl (hoa.out.alloc _) _ 1 _ rfl (new_cell _ _ _) rfl (by rw [i64s_len]; omega) (by rw [i64s_len]; omega) (le_alloc hBH.out.size _) ?_; intro v1 w2 ho1 hg1 hb1 hat1; have hb2 := below_append hBH.out _ hBH.out.size hb1; rw [i64s_snoc, ← M1.out] at ho1; have hB1 := Lib.hid hb2; have ho1H := Lib.hid ho1; have hobH := Lib.hid ((hob.out.alloc _).keep hg1 hD.out.comm.ne); have hDH := Lib.hid (hD.out.next (hob.out.alloc _) hat1); clear hg1 hb1 hat1 hb2 ho1)
          go_roundw
          case rel => first | exact ⟨k + 1, by omega, by go_num, (by obtain ⟨a', c', e'⟩ := ho1H.out.len; rw [i64s_len] at e'; exact ⟨a', c', e'⟩), ⟨_, _, by rw [M2.out]⟩, ho1H, by rw [M2.out]; exact hobH, hDH, hB1⟩ | ((repeat apply Exists.intro); exact ⟨⟨k + 1, by omega, by go_num, (by obtain ⟨a', c', e'⟩ := ho1H.out.len; rw [i64s_len] at e'; exact ⟨a', c', e'⟩), ⟨_, _, by rw [M2.out]⟩, ho1H, by rw [M2.out]; exact hobH, hDH, hB1⟩, rfl⟩)
          case measure => simp [intOf]; omega
        · have M1 : Hid (lo l f (k + 1) = lo l f k) := Lib.hid (by unfold lo; rw [S1.out, if_neg (by simpa using hq), List.append_nil])
          have M2 : Hid (hi l f (k + 1) = hi l f k ++ [x]) := Lib.hid (by unfold hi; rw [S2.out, if_pos (decide_eq_true (by omega))])
          clear S1 S2
          go_wp2_with (at_builtin; refine own_append1 rfl _ _ 50 rfl w1.heap.size 3 (.int .i64 0) 8 Tryd.underlying50 (by kernel_rfl) rfl _ _ rfl (hob.out.alloc _) _ 1 _ rfl (new_cell _ _ _) rfl (by rw [i64s_len]; omega) (by rw [i64s_len]; omega) (le_alloc hBH.out.size _) ?_; intro v1 w2 ho1 hg1 hb1 hat1; have hb2 := below_append hBH.out _ hBH.out.size hb1; rw [i64s_snoc, ← M2.out] at ho1; have hB1 := Lib.hid hb2; have ho1H := Lib.hid ho1; have hoaH := Lib.hid ((hoa.out.alloc _).keep hg1 hD.out.ne); have hDH := Lib.hid (hD.out.comm.next (hoa.out.alloc _) hat1).comm; clear hg1 hb1 hat1 hb2 ho1)
          go_roundw
          case rel => first | exact ⟨k + 1, by omega, by go_num, ⟨_, _, by rw [M1.out]⟩, (by obtain ⟨a', c', e'⟩ := ho1H.out.len; rw [i64s_len] at e'; exact ⟨a', c', e'⟩), by rw [M1.out]; exact hoaH, ho1H, hDH, hB1⟩ | ((repeat apply Exists.intro); exact ⟨⟨k + 1, by omega, by go_num, ⟨_, _, by rw [M1.out]⟩, (by obtain ⟨a', c', e'⟩ := ho1H.out.len; rw [i64s_len] at e'; exact ⟨a', c', e'⟩), by rw [M1.out]; exact hoaH, ho1H, hDH, hB1⟩, rfl⟩)
          case measure => simp [intOf]; omega
      · obtain rfl : k = l.length := by omega
        have hrl := rd_len l f
        have hrd := Lib.hid (rd_eq l f)
        have p1 : (0 : Int) < (l.length : Int) := by omega
        have p2 : (l.length : Int) - 1 < (l.length : Int) := by omega
        have p3 : (0 : Int) ≤ (l.length : Int) - 1 := by omega
        have hans1 : Hid (ans l f true = (rd l f).getD 0 0) := Lib.hid (by unfold ans nv nx; rw [if_pos rfl, if_neg hlH.out])
        have hans2 : Hid (ans l f false = (rd l f).getD (l.length - 1) 0) := Lib.hid (by unfold ans pw pv; rw [if_neg (by decide), if_neg hlH.out])
        have hncH : Hid (nc l = 0) := Lib.hid (by unfold nc; rw [if_neg hlH.out])
        clear hcH b0
        generalize rd l f = R at *
        cases on with
        | true =>
          go_wp2_with (at_builtin; refine own_appendl rfl _ _ 50 rfl w1.heap.size 3 (.int .i64 0) 8 Tryd.underlying50 (by kernel_rfl) rfl _ _ rfl hob.out _ _ rfl hoa.out (i64s_one _) (by rw [i64s_len, i64s_len]; omega) (by rw [i64s_len, i64s_len]; omega) hBH.out.size ?_; intro v1 w2 ho1 hb1; rw [i64s_app, ← hrd.out] at ho1; have hB1 := Lib.hid (hBH.out.trans hb1); obtain ⟨a3, c3, rfl⟩ := ho1.len; rw [i64s_len, hrl] at ho1 ⊢; obtain ⟨g, rfl, hcell⟩ := ho1.at_ 0 (by rw [i64s_len]; omega); rw [i64s_get] at hcell; clear hb1 ho1)
          go_ret2
          rw [hans1.out, hncH.out, List.getD_eq_getElem?_getD, List.getElem?_eq_getElem (by omega)]
          exact ⟨rfl, H1.out.trans (hB1.out.mono H1.out.size)⟩
        | false =>
          go_wp2_with (at_builtin; refine own_appendl rfl _ _ 50 rfl w1.heap.size 3 (.int .i64 0) 8 Tryd.underlying50 (by kernel_rfl) rfl _ _ rfl hob.out _ _ rfl hoa.out (i64s_one _) (by rw [i64s_len, i64s_len]; omega) (by rw [i64s_len, i64s_len]; omega) hBH.out.size ?_; intro v1 w2 ho1 hb1; rw [i64s_app, ← hrd.out] at ho1; have hB1 := Lib.hid (hBH.out.trans hb1); obtain ⟨a3, c3, rfl⟩ := ho1.len; rw [i64s_len, hrl] at ho1 ⊢; obtain ⟨g, rfl, hcell⟩ := ho1.at_ (l.length - 1) (by rw [i64s_len]; omega); rw [i64s_get] at hcell; clear hb1 ho1)
          go_ret2
          rw [hans2.out, hncH.out]
          exact ⟨rfl, H1.out.trans (hB1.out.mono H1.out.size)⟩
end Go.Proofs.YtifnochpmlllgaaDoor.All
