/-
  PROVED HERE: the contracts of lex.Read, lex.Catch (both ways) and expr.Parse. Conditions: as each theorem states.
-/
import Derived.Test.YtofmheeiplagjaaGreatDoorExpE
import Derived.Test.YtofmheeiplagjaaGreatDoorTmO
import Derived.Defers
import Derived.Recover
namespace Go.Proofs.YtofmheeiplagjaaGreatDoor.Tm
open Go.RowKit Go.Proofs.YtofmheeiplagjaaGreatDoor.Lex Go.Proofs.YtofmheeiplagjaaGreatDoor.Dig
set_option maxRecDepth 100000 in
theorem Catch_thrown (p : Addr) (x : Value) (b : Nat) (w : World) (hc : w.cell? p = some x) (hz : w.frozen? p = false) :
    CallsD Tryz.prog 27 #[.pointer (some p)] (.panicking [{ v := .iface 110 (.agg #[.iface 76 (.pointer (some ⟨b, 0, none⟩))]), recovered := false }]) w fun e u' w' =>
      e = .returned (.tuple #[]) ∧ u' = .panicking [{ v := .iface 110 (.agg #[.iface 76 (.pointer (some ⟨b, 0, none⟩))]), recovered := true }] ∧ w' = (w.alloc (.cells #[.iface 76 (.pointer (some ⟨b, 0, none⟩))] 110)).setCell p (.iface 76 (.pointer (some ⟨b, 0, none⟩))) := by
  have hp : p.block < w.heap.size := World.block_lt_of_cell? w p hc
  have hta : ∀ (v : Value) (w : World), (Instr.typeAssert (.iface 110 v) 20 110 true).run Tryz.prog w = .ok (.tuple #[v, .bool true]) w := fun _ _ => rfl
  refine callsD_of_wpS Tryz.func27 rfl fun c₀ cs hu => ?_
  apply wpS_seq
  apply wpS_region
  simp [wpOpsS, go_sem, recoverD, hu, Tryz.ntmps27, Exit.thenS]
  apply wpS_seq
  apply wpS_region
  simp [wpOpsS, go_sem, Exit.thenS]
  refine wpS_cond (t := true) (by simp [Act.eval, Array.replicate]) ?_
  simp only [if_true]
  apply wpS_seq
  apply wpS_region
  simp [wpOpsS, go_sem, Exit.thenS, Array.replicate, hta]
  apply wpS_seq
  apply wpS_seq
  apply wpS_region
  simp [wpOpsS, go_sem, Exit.thenS]
  refine wpS_cond (t := false) (by simp [Act.eval]) ?_
  simp only [Bool.false_eq_true, if_false]
  refine wpS_of_wp (wp_skip ?_)
  simp only [Exit.thenS]
  apply wpS_region
  have hc' := (World.cell?_alloc_lt w (.cells #[.iface 76 (.pointer (some ⟨b, 0, none⟩))] 110) p hp).trans hc
  have hz' : (w.alloc (.cells #[.iface 76 (.pointer (some ⟨b, 0, none⟩))] 110)).frozen? p = false := (World.frozen?_alloc_old w _ p (Nat.ne_of_lt hp)).trans hz
  simp [wpOpsS, go_sem, hc', hz', bodyPostS, results, Tryz.results27]
set_option maxRecDepth 100000 in
theorem Catch_idle (p : Addr) (w : World) :
    CallsD Tryz.prog 27 #[.pointer (some p)] .returning w fun e u' w' => e = .returned (.tuple #[]) ∧ u' = .returning ∧ w' = w := by
  refine callsD_of_wpS Tryz.func27 rfl fun c₀ cs hu => ?_
  apply wpS_seq
  apply wpS_region
  simp [wpOpsS, go_sem, recoverD, hu, Tryz.ntmps27, Exit.thenS]
  apply wpS_seq
  apply wpS_region
  simp [wpOpsS, go_sem, Exit.thenS]
  refine wpS_cond (t := false) (by simp [Act.eval, Array.replicate]) ?_
  simp only [Bool.false_eq_true, if_false]
  refine wpS_of_wp (wp_skip ?_)
  cases c₀
  simp_all [bodyPostS, results, Tryz.results27]
theorem below_set_at {B k j : Nat} {W w : World} {v : Value} (h : Below B W w) (hk : B ≤ k) : Below B W (w.setCell ⟨k, j, none⟩ v) :=
  ⟨h.os, h.tape, h.output, by rw [show (w.setCell ⟨k, j, none⟩ v).heap.size = w.heap.size by simp [World.setCell]]; exact h.size, fun i hi => (Below.heap_setCell _ _ _ _ (show i ≠ k by omega)).trans (h.block i hi)⟩
theorem lex_thrown {B w : World} {f : Int × Int} {b c : Nat} (hb : Below B.heap.size B w) (hcB : B.heap.size ≤ c) (he : w.heap[c]? = some (.cells #[.nilIface] 31)) (c0 : w.cell? ⟨b, 0, none⟩ = some (.int .i64 f.1)) (c1 : w.cell? ⟨b, 1, none⟩ = some (.int .i64 f.2)) :
    Err.ErrIs ((w.alloc (.cells #[.iface 76 (.pointer (some ⟨b, 0, none⟩))] 110)).setCell ⟨c, 0, none⟩ (.iface 76 (.pointer (some ⟨b, 0, none⟩)))) (.iface 76 (.pointer (some ⟨b, 0, none⟩))) f.1 f.2 ∧ Below B.heap.size B ((w.alloc (.cells #[.iface 76 (.pointer (some ⟨b, 0, none⟩))] 110)).setCell ⟨c, 0, none⟩ (.iface 76 (.pointer (some ⟨b, 0, none⟩)))) ∧ ((w.alloc (.cells #[.iface 76 (.pointer (some ⟨b, 0, none⟩))] 110)).setCell ⟨c, 0, none⟩ (.iface 76 (.pointer (some ⟨b, 0, none⟩)))).cell? ⟨c, 0, none⟩ = some (.iface 76 (.pointer (some ⟨b, 0, none⟩))) := by
  have hne : b ≠ c := by
    rintro rfl
    unfold World.cell? at c0
    rw [he] at c0
    simp at c0
  have hlt := World.block_lt_of_cell? w _ c0
  refine ⟨.inr (.inr ⟨b, 0, rfl, ?_, ?_⟩), below_set_at (hb.alloc hb.size _) hcB, ?_⟩
  · exact (World.cell?_of_block (a := ⟨b, 0, none⟩) ((Below.heap_setCell _ _ _ _ hne).trans (heap_alloc_old _ _ hlt))).trans c0
  · exact (World.cell?_of_block (a := ⟨b, 1, none⟩) ((Below.heap_setCell _ _ _ _ hne).trans (heap_alloc_old _ _ hlt))).trans c1
  · refine World.cell?_setCell_same (u := .nilIface) _ _ _ ?_
    unfold World.cell?
    rw [heap_alloc_old _ _ (Array.getElem?_eq_some_iff.1 he).1, he]
    rfl
/-- What a text's expression is, and what is wrong with it. -/
def prS (s : ByteArray) : Pr := exprF s.size ((rl s).length + 1) 1 0 ⟨0, -1, rl s⟩
def pfS (s : ByteArray) : Int × Int := if rc s ≠ 0 then (rc s, rp s) else if (prS s).2.c ≠ 0 then ((prS s).2.c, (prS s).2.a) else if (prS s).2.l ≠ [] then (3, ((pos s.size (prS s).2 : Nat) : Int)) else (0, -1)
theorem pfS_lex {s : ByteArray} (h : rc s ≠ 0) : pfS s = (rc s, rp s) := if_pos h
theorem pfS_bad {s : ByteArray} (h : rc s = 0) (h2 : (prS s).2.c ≠ 0) : pfS s = ((prS s).2.c, (prS s).2.a) := by unfold pfS; rw [if_neg (by simp [h]), if_pos h2]
theorem pfS_rest {s : ByteArray} (h : rc s = 0) (h2 : (prS s).2.c = 0) (h3 : (prS s).2.l ≠ []) : pfS s = (3, ((pos s.size (prS s).2 : Nat) : Int)) := by unfold pfS; rw [if_neg (by simp [h]), if_neg (by simp [h2]), if_pos h3]
theorem pfS_ok {s : ByteArray} (h : rc s = 0) (h2 : (prS s).2.c = 0) (h3 : (prS s).2.l = []) : pfS s = (0, -1) := by unfold pfS; rw [if_neg (by simp [h]), if_neg (by simp [h2]), if_neg (by simp [h3])]
def LrP (s : ByteArray) (W : World) (e : Ending) (w' : World) : Prop :=
  (rc s = 0 ∧ ∃ G lv, e = .returned (.tuple #[.pointer (some ⟨G, 0, none⟩), .nilIface]) ∧ RS G s.size lv ⟨0, -1, rl s⟩ w' ∧ W.heap.size ≤ G ∧ Below W.heap.size W w') ∨
  (rc s ≠ 0 ∧ ∃ T v, e = .returned (.tuple #[.pointer none, .iface T v]) ∧ Err.ErrIs w' (.iface T v) (rc s) (rp s) ∧ Below W.heap.size W w')
theorem err_iface {w : World} {x : Value} {n p : Int} (h : Err.ErrIs w x n p) (hn : n ≠ 0) : ∃ T v, x = .iface T v := by
  rcases h with ⟨_, h, _⟩ | ⟨rfl, _⟩ | ⟨b, o, rfl, _⟩
  · exact absurd h hn
  · exact ⟨_, _, rfl⟩
  · exact ⟨_, _, rfl⟩
set_option maxRecDepth 100000 in
set_option maxHeartbeats 2000000 in
theorem lexRead_any (s : ByteArray) (hs : s.size ≤ 4000) (W : World) (hm : HomeM W) : Calls Tryz.prog 26 #[.string s] W (LrP s W) := by
  have C := Lib.hid (lex_any s hs W hm)
  clear hm
  by_cases h0 : rc s = 0
  · go_enter Tryz.func26, Tryz.ntmps26
    go_wp2_with fail
    refine (C.out).mono ?_; rintro e w1 ⟨v, x, rfl, ht, _, hb, hx⟩
    obtain rfl := hx h0
    obtain ⟨a, c, rfl, _⟩ := id ht
    have HT := Lib.hid ht
    have HB := Lib.hid hb
    clear hx ht hb C
    go_wp2_with fail
    go_ret2
    refine .inl ⟨h0, w1.heap.size, .slice a (rl s).length c, rfl, ?_, HB.out.size, HB.out.alloc HB.out.size _⟩
    have hbb : Below w1.heap.size w1 (w1.alloc (.cells #[.slice a (rl s).length c, .int .i64 (s.size : Nat)] 108)) := (Below.refl _ _).alloc (Nat.le_refl _) _
    exact ⟨rfl, by simp, by simp, fun j => by simp, tks_kept HT.out (fun hl k hk => hbb.block k (tks_room HT.out hl k hk)), fun hl k hk => tks_room HT.out hl k hk, by simp⟩
  · go_enter Tryz.func26, Tryz.ntmps26
    go_wp2_with fail
    refine (C.out).mono ?_; rintro e w1 ⟨v, x, rfl, ht, hE, hb, hx⟩
    obtain ⟨T, y, rfl⟩ := err_iface hE h0
    have HE := Lib.hid hE
    have HB := Lib.hid hb
    clear hx ht hb hE C
    go_wp2_with fail
    go_ret2
    exact .inr ⟨h0, T, y, rfl, HE.out, HB.out⟩
def EpP (s : ByteArray) (W : World) (e : Ending) (w' : World) : Prop := ∃ v ev, e = .returned (.tuple #[v, ev]) ∧ Err.ErrIs w' ev (pfS s).1 (pfS s).2 ∧ Below W.heap.size W w' ∧ ((pfS s).1 ≠ 0 → v = .pointer none) ∧ ((pfS s).1 = 0 → ∃ x, (prS s).1 = some x ∧ ExAt w' x v)
theorem txt_full {σ : Ey} (hc : σ.c = 0) (hA : AllT σ.l) (hl : σ.l ≠ []) : ((txt σ).toList == []) = false := by
  cases h : σ.l with
  | nil => exact absurd h hl
  | cons t r =>
    rw [txt_cons hc h]
    have t2 := str_full t.text (hA t (by rw [h]; simp)).1
    rw [beq_eq_false_iff_ne]; intro e; rw [e] at t2; cases t2
theorem cell_box {w : World} {c : Nat} {v : Value} {t : TypeId} (h : w.heap[c]? = some (.cells #[v] t)) : w.cell? ⟨c, 0, none⟩ = some v ∧ w.frozen? ⟨c, 0, none⟩ = false := by
  refine ⟨by unfold World.cell?; rw [h]; rfl, by unfold World.frozen?; rw [h]; rfl⟩
theorem set_same {w : World} {c : Nat} {v : Value} {t : TypeId} (h : w.heap[c]? = some (.cells #[v] t)) : Below w.heap.size w (w.setCell ⟨c, 0, none⟩ v) := by
  refine ⟨rfl, rfl, rfl, by simp [World.setCell], fun k _ => ?_⟩
  by_cases e : k = c
  · subst e
    simp [World.setCell, Array.getElem?_modify, h]
  · exact Below.heap_setCell _ _ _ _ e
theorem err_set {w : World} {c : Nat} {x v : Value} {n p : Int} {t : TypeId} (h : Err.ErrIs w v n p) (hc : w.heap[c]? = some (.cells #[.nilIface] t)) : Err.ErrIs (w.setCell ⟨c, 0, none⟩ x) v n p := by
  rcases h with h | h | ⟨b, o, e, h1, h2⟩
  · exact .inl h
  · exact .inr (.inl h)
  · have hne : b ≠ c := by
      rintro rfl
      unfold World.cell? at h1
      rw [hc] at h1
      rcases o with _ | o <;> simp at h1
    exact .inr (.inr ⟨b, o, e, (World.cell?_of_block (a := ⟨b, o, none⟩) (Below.heap_setCell _ _ _ _ hne)).trans h1, (World.cell?_of_block (a := ⟨b, o + 1, none⟩) (Below.heap_setCell _ _ _ _ hne)).trans h2⟩)
theorem set_heap {w : World} {c : Nat} {v x : Value} {t : TypeId} (h : w.heap[c]? = some (.cells #[v] t)) : (w.setCell ⟨c, 0, none⟩ x).heap[c]? = some (.cells #[x] t) := by
  simp [World.setCell, Array.getElem?_modify, h]
set_option maxRecDepth 100000 in
set_option maxHeartbeats 4000000 in
theorem Parse_any (s : ByteArray) (hs : s.size ≤ 4000) (hf : s.size ≤ 900 ∨ 3000 < s.size) (W : World) (hm : HomeM W) (hL : LH W.heap.size W) : Calls Tryz.prog 7 #[.string s] W (EpP s W) := by
  have B0 : Below W.heap.size W (W.alloc (.cells #[.nilIface] 31)) := (Below.refl _ _).alloc (Nat.le_refl _) _
  have C := Lib.hid (lexRead_any s hs _ (hm.below B0))
  have HL := Lib.hid hL
  have HB0 := Lib.hid B0
  have E0 := Lib.hid (show (W.alloc (.cells #[.nilIface] 31)).heap[W.heap.size]? = some (.cells #[.nilIface] 31) from heap_alloc_new _ _)
  have HAl := Lib.hid (allT_rl hf)
  clear hm hL B0
  go_enter_defers Tryz.func7, Tryz.ntmps7
  go_upto_region 1 with fail
  generalize W.alloc (.cells #[.nilIface] 31) = w0 at *
  go_wp2_with fail
  refine (C.out).mono ?_; rintro e w1 (⟨h0, G, lv, rfl, hR, hG, hb⟩ | ⟨h0, T, y, rfl, hE, hb⟩)
  · have HR := Lib.hid hR
    have B1 := Lib.hid (HB0.out.trans (hb.mono HB0.out.size))
    have E1 := Lib.hid ((hb.block _ (Array.getElem?_eq_some_iff.1 E0.out).1).trans E0.out)
    have e0 : w1.cell? ⟨W.heap.size, 0, none⟩ = some .nilIface := by unfold World.cell?; rw [E1.out]; rfl
    have e1 : w1.frozen? ⟨W.heap.size, 0, none⟩ = false := by unfold World.frozen?; rw [E1.out]; rfl
    have e2 := World.cell?_setCell_same (v := .nilIface) w1 ⟨W.heap.size, 0, none⟩ e0
    have S2 := Lib.hid (set_same E1.out)
    have R2 := Lib.hid (hR.below S2.out)
    have B2 := Lib.hid (B1.out.trans (S2.out.mono B1.out.size))
    have E2 := Lib.hid (set_heap (x := .nilIface) E1.out)
    have hWG : W.heap.size < G := Nat.lt_of_lt_of_le (Array.getElem?_eq_some_iff.1 E0.out).1 hG
    have CR := Lib.hid (read_all ((rl s).length + 1) W.heap.size G s.size lv ⟨0, -1, rl s⟩ _ 0 R2.out (HL.out.keep fun k hk => B2.out.block k hk) (Nat.le_of_lt hWG) HAl.out hs (Nat.zero_le _) (Nat.lt_succ_self _))
    clear C hR hb S2
    go_upto_region 4 with fail
    generalize w1.setCell ⟨W.heap.size, 0, none⟩ .nilIface = w2 at *
    go_wp2_with fail
    obtain ⟨R, hRe⟩ : ∃ R, prS s = R := ⟨_, rfl⟩
    rw [show exprF s.size ((rl s).length + 1) 1 0 ⟨0, -1, rl s⟩ = R from hRe] at CR
    have HPR := Lib.hid hRe
    have HTm := Lib.hid (show Tm0 ⟨0, -1, rl s⟩ R.2 by rw [← hRe]; exact expr_0 _ _ _ _ _)
    clear hRe e0 e1 e2 E1
    refine (CR.out).mono ?_; rintro e w3 ⟨hg, ⟨v, x, lv3, rfl, hx, hp, hxf, p, rfl⟩ | ⟨hc, b9, rfl, q0, q1⟩⟩
    · have h3 := Lib.hid hp
      have X3 := Lib.hid hxf
      have HX := Lib.hid hx
      have E3 := Lib.hid ((hg.block _ (Array.getElem?_eq_some_iff.1 E2.out).1 (fun e => by injection e; omega)).trans E2.out)
      have B3 := Lib.hid (B2.out.trans (show Below W.heap.size w2 w3 from ⟨hg.os, hg.tape, hg.output, hg.size, fun k hk => hg.block k (Nat.lt_of_lt_of_le hk B2.out.size) (fun e => by injection e; omega)⟩))
      clear hg hp hxf hx CR
      go_wp2_with fail
      refine (Text_any h3.out).mono ?_; rintro e w4 ⟨rfl, hb⟩
      have h4 := Lib.hid (h3.out.below hb)
      have E4 := Lib.hid ((hb.block _ (Array.getElem?_eq_some_iff.1 E3.out).1).trans E3.out)
      have B4 := Lib.hid (B3.out.trans (hb.mono B3.out.size))
      have X4 := Lib.hid (X3.out.later hb.size (fun k _ hk => hb.block k hk))
      clear hb
      by_cases hl : R.2.l = []
      · rw [txt_nil hl]
        have hpf := Lib.hid (show pfS s = (0, -1) from pfS_ok h0 (by rw [HPR.out]; exact h4.out.ok) (by rw [HPR.out]; exact hl))
        obtain ⟨c0, c1⟩ := cell_box E4.out
        have c2 := World.cell?_setCell_same (v := .nilIface) w4 ⟨W.heap.size, 0, none⟩ c0
        unfold emp
        go_wp2_with fail
        refine leaves_cons (f := 27) (args := #[.pointer (some ⟨W.heap.size, 0, none⟩)]) (by simp) (by simp [go_sem]) ?_
        refine (Catch_idle ⟨W.heap.size, 0, none⟩ _).mono ?_
        rintro e u' w'' ⟨rfl, rfl, rfl⟩
        simp [Leaves, settle, results, Tryz.results7, go_sem, c2]
        refine ⟨_, _, rfl, by rw [hpf.out]; exact .inl ⟨rfl, rfl, rfl⟩, below_set_at B4.out (Nat.le_refl _), fun h => absurd (by rw [hpf.out]) h, fun _ => ⟨x, by rw [HPR.out]; exact HX.out, ?_⟩⟩
        exact (X4.out.later (by simp [World.setCell]) (fun k hk _ => Below.heap_setCell _ _ _ _ (show k ≠ W.heap.size by have := (Array.getElem?_eq_some_iff.1 E2.out).1; omega))).now
      · have e2 := txt_full h4.out.ok (HTm.out.1 HAl.out) hl
        have hpf := Lib.hid (show pfS s = (3, ((pos s.size R.2 : Nat) : Int)) by rw [pfS_rest h0 (by rw [HPR.out]; exact h4.out.ok) (by rw [HPR.out]; exact hl), HPR.out])
        go_wp2_with fail
        refine (At_any h4.out).mono ?_; rintro e w5 ⟨rfl, hb⟩
        have E5 := Lib.hid ((hb.block _ (Array.getElem?_eq_some_iff.1 E4.out).1).trans E4.out)
        have B5 := Lib.hid (B4.out.trans (hb.mono B4.out.size))
        clear hb
        go_wp2_with fail
        refine (Fail_any _ _ _).mono ?_; rintro e w6 ⟨⟨b9, rfl, q0, q1⟩, hb⟩
        have E6 := Lib.hid ((hb.block _ (Array.getElem?_eq_some_iff.1 E5.out).1).trans E5.out)
        have B6 := Lib.hid (B5.out.trans (hb.mono B5.out.size))
        obtain ⟨c0, c1⟩ := cell_box E6.out
        have D9 := Lib.hid (lex_thrown B6.out (Nat.le_refl _) E6.out q0 q1)
        clear hb q0 q1
        go_wp2_with fail
        refine leaves_cons (f := 27) (args := #[.pointer (some ⟨W.heap.size, 0, none⟩)]) (by simp) (by simp [go_sem]) ?_
        refine (Catch_thrown ⟨W.heap.size, 0, none⟩ .nilIface b9 _ c0 c1).mono ?_
        rintro e u' w'' ⟨rfl, rfl, rfl⟩
        simp [Leaves, settle, results, Tryz.results7, go_sem, D9.out.2.2]
        exact ⟨_, _, rfl, by rw [hpf.out]; exact D9.out.1, D9.out.2.1, fun _ => rfl, fun h => absurd (by rw [hpf.out] at h; exact h) (show ¬ (3 : Int) = 0 by decide)⟩
    · have hpf := Lib.hid (show pfS s = (R.2.c, R.2.a) by rw [pfS_bad h0 (by rw [HPR.out]; exact hc), HPR.out])
      have C9 := Lib.hid hc
      have E3 := Lib.hid ((hg.block _ (Array.getElem?_eq_some_iff.1 E2.out).1 (fun e => by injection e; omega)).trans E2.out)
      have B3 := Lib.hid (B2.out.trans (show Below W.heap.size w2 w3 from ⟨hg.os, hg.tape, hg.output, hg.size, fun k hk => hg.block k (Nat.lt_of_lt_of_le hk B2.out.size) (fun e => by injection e; omega)⟩))
      obtain ⟨c0, c1⟩ := cell_box E3.out
      have D9 := Lib.hid (lex_thrown B3.out (Nat.le_refl _) E3.out q0 q1)
      clear hg q0 q1 CR hc
      go_wp2_with fail
      refine leaves_cons (f := 27) (args := #[.pointer (some ⟨W.heap.size, 0, none⟩)]) (by simp) (by simp [go_sem]) ?_
      refine (Catch_thrown ⟨W.heap.size, 0, none⟩ .nilIface b9 _ c0 c1).mono ?_
      rintro e u' w'' ⟨rfl, rfl, rfl⟩
      simp [Leaves, settle, results, Tryz.results7, go_sem, D9.out.2.2]
      exact ⟨_, _, rfl, by rw [hpf.out]; exact D9.out.1, D9.out.2.1, fun _ => rfl, fun h => absurd (by rw [hpf.out] at h; exact h) C9.out⟩
  · have HE := Lib.hid hE
    have B1 := Lib.hid (HB0.out.trans (hb.mono HB0.out.size))
    have E1 := Lib.hid ((hb.block _ (Array.getElem?_eq_some_iff.1 E0.out).1).trans E0.out)
    have e0 : w1.cell? ⟨W.heap.size, 0, none⟩ = some .nilIface := by unfold World.cell?; rw [E1.out]; rfl
    have e1 : w1.frozen? ⟨W.heap.size, 0, none⟩ = false := by unfold World.frozen?; rw [E1.out]; rfl
    have hpf := Lib.hid (pfS_lex h0)
    clear C hE hb
    have e2 := World.cell?_setCell_same (v := .iface T y) w1 ⟨W.heap.size, 0, none⟩ e0
    have e3 : (w1.setCell ⟨W.heap.size, 0, none⟩ (.iface T y)).frozen? ⟨W.heap.size, 0, none⟩ = false := by rw [frozen?_setCell]; exact e1
    have E2 := Lib.hid (set_heap (x := .iface T y) E1.out)
    have S2 := Lib.hid (set_same E2.out)
    have HE2 := Lib.hid (err_set (x := .iface T y) HE.out E1.out)
    have B2 := Lib.hid (below_set_at (j := 0) (v := .iface T y) B1.out (Nat.le_refl _))
    have HE3 := Lib.hid (HE2.out.below S2.out)
    have B3 := Lib.hid (B2.out.trans (S2.out.mono B2.out.size))
    have e4 := World.cell?_setCell_same (v := .iface T y) (w1.setCell ⟨W.heap.size, 0, none⟩ (.iface T y)) ⟨W.heap.size, 0, none⟩ e2
    go_upto_region 3 with fail
    clear e0 e1
    generalize w1.setCell ⟨W.heap.size, 0, none⟩ (.iface T y) = w2 at *
    go_region
    go_wp2_with fail
    simp [bodyPostD, Leaves, results, Tryz.results7, go_sem, e4]
    exact ⟨_, _, rfl, by rw [hpf.out]; exact HE3.out.below ((Below.refl _ _).drew), B3.out.drew, fun _ => rfl, fun h => absurd (by rw [hpf.out] at h; exact h) h0⟩
end Go.Proofs.YtofmheeiplagjaaGreatDoor.Tm
