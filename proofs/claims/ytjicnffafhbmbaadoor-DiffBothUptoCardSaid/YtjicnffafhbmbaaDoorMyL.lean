/-
  PROVED HERE: the contract of diff.add. Conditions: as each theorem states.
-/
import Derived.Test.YtjicnffafhbmbaaDoorMyE
import Derived.Test.YtjicnffafhbmbaaDoorTac
namespace Go.Proofs.YtjicnffafhbmbaaDoor.My
open Go.RowKit
theorem heap_new0 (w : World) (c : Obj) : (w.alloc c).heap[w.heap.size]? = some c := heap_alloc_new w c
def AdP (l : List Ed) (e : Ed) (B : Nat) (W : World) (r : Ending) (w' : World) : Prop := ∃ v', r = .returned v' ∧ OwnE w' B v' (addE l e) ∧ Below B W w'
set_option maxRecDepth 100000 in
set_option maxHeartbeats 4000000 in
theorem add_any (v : Value) (l : List Ed) (x n : Int) (t : ByteArray) (W : World) (B : Nat) (hO : OwnE W B v l) (hB : B ≤ W.heap.size) (hl : l.length ≤ 400) (hn : 0 ≤ n ∧ n ≤ 400) (ht : t.size ≤ 400) (hq : ∀ q ∈ l, (0 ≤ q.n ∧ q.n ≤ 400) ∧ q.text.size ≤ 400) :
    Calls Tryd.prog 23 #[v, .int .i64 x, .int .i64 n, .string t] W (AdP l ⟨x, n, t⟩ B W) := by
  have hOH := Lib.hid hO
  rcases List.eq_nil_or_concat l with e0 | ⟨d, q, e0⟩
  · obtain ⟨a, cap, hv⟩ := hO.len
    subst e0
    subst hv
    clear hO hq
    go_enter Tryd.func23, Tryd.ntmps23
    go_wp2_with (at_builtin; go_loud (refine ownE_append1 rfl _ _ rfl B _ [] rfl (hOH.out.alloc _) _ 1 (Ed.mk x n t) rfl (heap_new0 _ _) (by simp at hl ⊢; try omega) (by first | exact hB | (simp; omega)) ?_); intro v1 w2 ho1 hg1 hb1 hat1; have HO1 := Lib.hid ho1; have HB1 := Lib.hid (((Below.refl B W).alloc hB _).trans hb1); clear ho1 hg1 hb1 hat1)
    go_ret
    exact ⟨v1, rfl, HO1.out, HB1.out⟩
  · rw [List.concat_eq_append] at e0
    subst e0
    rcases hO.2 with ⟨_, h0⟩ | ⟨g, cap, cur, hv, hbg, _⟩
    · simp at h0
    rw [show (d ++ [q]).length = d.length + 1 by simp] at hv hl
    subst hv
    have hc := last_cells hO
    obtain ⟨⟨c0, c1, c2⟩, hf⟩ := hc
    have f1 := hf (d.length * 3 + 1)
    have f2 := hf (d.length * 3 + 2)
    have q0 := hq q (by simp)
    obtain ⟨q0, q1⟩ := q0
    have q2 : ¬ (9223372036854775807 < q.text.size + t.size) := by omega
    clear hq hf
    have HT := Lib.hid (last_text (last_num hO (q.n + n)) (q.text ++ t))
    have HB : Hid (Below B W ((W.setCell ⟨g, d.length * 3 + 1, none⟩ (.int .i64 (q.n + n))).setCell ⟨g, d.length * 3 + 2, none⟩ (.string (q.text ++ t)))) := Lib.hid (((Below.refl B W).setCell (p := ⟨g, d.length * 3 + 1, none⟩) hbg _).setCell (p := ⟨g, d.length * 3 + 2, none⟩) hbg _)
    have k1 : (0 : Int) ≤ (d.length : Int) := by omega
    have k2 : ((d.length + 1 : Nat) : Int) - 1 = (d.length : Int) := by omega
    clear hO
    generalize hk : d.length = k at *
    by_cases hx : q.what = x
    · subst hx
      go_enter Tryd.func23, Tryd.ntmps23
      go_wp2_with fail
      go_ret
      exact ⟨_, rfl, by rw [addE_join (d := d) (q := q) (e := ⟨q.what, n, t⟩) rfl]; exact HT.out, HB.out⟩
    · have e1 : (q.what == x) = false := by rw [beq_eq_false_iff_ne]; exact hx
      go_enter Tryd.func23, Tryd.ntmps23
      go_wp2_with (at_builtin; go_loud (refine ownE_append1 rfl _ _ rfl B _ (d ++ [q]) rfl (hOH.out.alloc _) _ 1 (Ed.mk x n t) rfl (heap_new0 _ _) (by simp at hl ⊢; try omega) (by first | exact hB | (simp; omega)) ?_); intro v1 w2 ho1 hg1 hb1 hat1; have HO1 := Lib.hid ho1; have HB1 := Lib.hid (((Below.refl B W).alloc hB _).trans hb1); clear ho1 hg1 hb1 hat1)
      go_ret
      exact ⟨v1, rfl, by rw [addE_new hx]; exact HO1.out, HB1.out⟩
end Go.Proofs.YtjicnffafhbmbaaDoor.My
