/-
  PROVED HERE: registers in memory, and the contract of regs' Put. Conditions: as each theorem states.
-/
import Derived.Test.YthkigjhbcempbaaDoorRgC
import Derived.Deep.RegionWith
import Derived.Deep.RegionHeld3
import Derived.Carry
import Derived.WalkSpells
namespace Go.Proofs.YthkigjhbcempbaaDoor.Rg
open Go.RowKit
/-- regs' registers at ⟨g, 0⟩: what is kept by letters, and the nine that were cut. -/
structure GR (w : World) (g : Nat) (mo : Option Nat) (f : Nat → ByteArray) (n : Nat) (C : List ByteArray) : Prop where
  c0 : w.cell? ⟨g, 0, none⟩ = some (.map mo)
  cs : ∀ i (h : i < C.length), w.cell? ⟨g, i + 1, none⟩ = some (.string C[i])
  len : C.length = 9
  fz : ∀ j, w.frozen? ⟨g, j, none⟩ = false
  yes : ∀ b, mo = some b → b ≠ g ∧ Mp w b f n
  no : mo = none → ∀ c, c < 256 → f c = ⟨#[]⟩
def mb (mo : Option Nat) (k : Nat) : Prop := mo = some k
theorem GR.keeps {S : Nat → Prop} {w w1 : World} {g n : Nat} {mo : Option Nat} {f : Nat → ByteArray} {C : List ByteArray} (h : GR w g mo f n C) (k : Keeps S w w1) (hg : ¬ S g) (hb : ∀ b, mo = some b → ¬ S b) : GR w1 g mo f n C :=
  ⟨k.cell (p := ⟨g, 0, none⟩) hg h.c0, fun i hi => k.cell (p := ⟨g, i + 1, none⟩) hg (h.cs i hi), h.len, fun j => (World.frozen?_of_block (w := w) (a := ⟨g, j, none⟩) (k.block g (World.block_lt_of_cell? w _ h.c0) hg)).trans (h.fz j),
    fun b e => ⟨(h.yes b e).1, (h.yes b e).2.keeps k (hb b e)⟩, h.no⟩
theorem GR.mono {w : World} {g n m : Nat} {mo : Option Nat} {f : Nat → ByteArray} {C : List ByteArray} (h : GR w g mo f n C) (hm : n ≤ m) : GR w g mo f m C :=
  ⟨h.c0, h.cs, h.len, h.fz, fun b e => ⟨(h.yes b e).1, (h.yes b e).2.mono hm⟩, h.no⟩
theorem GR.drew {w : World} {g n : Nat} {mo : Option Nat} {f : Nat → ByteArray} {C : List ByteArray} (h : GR w g mo f n C) : GR w.drew g mo f n C := ⟨h.c0, h.cs, h.len, h.fz, h.yes, h.no⟩
/-- An entry and its store, twice. -/
theorem put_mem {w : World} {b n : Nat} {f : Nat → ByteArray} (hM : Mp w b f n) (d : Nat) (hd : d < 256) (T : ByteArray) :
    ∃ (st st' : Nat) (v v' : ByteArray) (w1 w2 w3 w4 : World), (Instr.mapEntry 24 (.map (some b)) (.int .u8 (d : Int))).run Tryd.prog w = .ok (.tuple #[.string v, .int .i64 (st : Int)]) w1 ∧
      (Instr.entryStore 24 (.map (some b)) (.int .i64 (st : Int)) (.string T)).run Tryd.prog w1 = .ok () w2 ∧
      (Instr.mapEntry 24 (.map (some b)) (.int .u8 34)).run Tryd.prog w2 = .ok (.tuple #[.string v', .int .i64 (st' : Int)]) w3 ∧
      (Instr.entryStore 24 (.map (some b)) (.int .i64 (st' : Int)) (.string T)).run Tryd.prog w3 = .ok () w4 ∧ Mp w4 b (upd (upd f d T) 34 T) (n + 2) ∧ Keeps (fun k => k = b) w w1 ∧ Keeps (fun k => k = b) w w2 ∧ Keeps (fun k => k = b) w w3 ∧ Keeps (fun k => k = b) w w4 := by
  obtain ⟨st, w1, e1, m1, s1, _, k1, _⟩ := entry_run (P := Tryd.prog) (k := 5) (e := 9) (t := 24) Tryd.underlying5 Tryd.underlying24 zeroStr hM d hd
  obtain ⟨w2, e2, m2, _, k2, _⟩ := store_run (P := Tryd.prog) (t := 24) m1 s1 T hd
  obtain ⟨st', w3, e3, m3, s3, _, k3, _⟩ := entry_run (P := Tryd.prog) (k := 5) (e := 9) (t := 24) Tryd.underlying5 Tryd.underlying24 zeroStr m2 34 (by decide)
  obtain ⟨w4, e4, m4, _, k4, _⟩ := store_run (P := Tryd.prog) (t := 24) m3 s3 T (by decide)
  have a2 := k1.trans k2 (fun _ h => .inl h)
  have a3 := a2.trans k3 (fun _ h => .inl h)
  exact ⟨st, st', f d, _, w1, w2, w3, w4, e1, e2, e3, e4, m4.mono (by omega), k1, a2, a3, a3.trans k4 (fun _ h => .inl h)⟩
def errV (c : Int) : Value := if c = 0 then .nilIface else .iface 35 (.int .i64 c)
theorem errV_is (w : World) (c : Int) : Err.ErrIs w (errV c) c (-1) := by
  unfold errV
  by_cases h : c = 0
  · subst h; exact .inl ⟨rfl, rfl, rfl⟩
  · rw [if_neg h]; exact .inr (.inl ⟨rfl, rfl⟩)
def PutP (g n : Nat) (mo : Option Nat) (f : Nat → ByteArray) (C : List ByteArray) (c : Nat) (t : ByteArray) (w : World) (e : Ending) (w' : World) : Prop :=
  ∃ mo', e = .returned (errV (code f c t)) ∧ GR w' g mo' (putF f c t) (n + 2) C ∧ Keeps (fun k => k = g ∨ mo = some k) w w' ∧ ∀ b, mo' = some b → mo = some b ∨ w.heap.size ≤ b
set_option maxRecDepth 100000 in
set_option maxHeartbeats 2000000 in
theorem put_no (w : World) (g n : Nat) (mo : Option Nat) (f : Nat → ByteArray) (C : List ByteArray) (c : Nat) (t : ByteArray) (hG : GR w g mo f n C) (hc : c < 256) (hn : nm c = false) :
    Calls Tryd.prog 7 #[.pointer (some ⟨g, 0, none⟩), .int .u8 c, .string t] w (PutP g n mo f C c t w) := by
  have NC := Lib.hid (name_any c hc)
  have SC := Lib.hid (small_any c hc)
  have GH := Lib.hid hG
  rw [hn] at NC
  have hcode : code f c t = 5 := by unfold code; rw [if_pos hn]
  have hput : putF f c t = f := by unfold putF; rw [hcode, if_neg (by decide)]
  unfold PutP
  rw [hcode, hput]
  clear hG hcode hput
  go_enter Tryd.func7, Tryd.ntmps7
  go_wp2_with fail
  refine (SC.out _).mono ?_; rintro e w1 ⟨rfl, rfl⟩
  go_wp2_with fail
  refine (NC.out _).mono ?_; rintro e w1 ⟨rfl, rfl⟩
  go_wp2_with fail
  go_ret
  exact ⟨mo, rfl, GH.out.mono (by omega), Keeps.refl _ _, fun b h => .inl h⟩
set_option maxRecDepth 100000 in
set_option maxHeartbeats 2000000 in
theorem put_yes (w : World) (g n : Nat) (mo : Option Nat) (f : Nat → ByteArray) (C : List ByteArray) (c : Nat) (t : ByteArray) (hG : GR w g mo f n C) (hc : c < 256) (hn : nm c = true) (hf : ∀ k, k < 256 → (f k).size ≤ 10000) (ht : t.size ≤ 10000) :
    Calls Tryd.prog 7 #[.pointer (some ⟨g, 0, none⟩), .int .u8 c, .string t] w (PutP g n mo f C c t w) := by
  have NC := Lib.hid (name_any c hc)
  have SC := Lib.hid (small_any c hc)
  have GH := Lib.hid hG
  rw [hn] at NC
  have hll := low_lt c hc
  have hfl := hf (low c) hll
  have c0 := hG.c0
  have f0 := hG.fz 0
  have hgs : g < w.heap.size := World.block_lt_of_cell? w _ hG.c0
  have LK : (Instr.lookup 24 (.map mo) (.int .u8 (low c : Int)) false).run Tryd.prog w = .ok (.string (f (low c))) w := by
    cases mo with
    | none =>
      have := Maps.look_nil (P := Tryd.prog) (w := w) (t := 24) false (Maps.int_keyed Tryd.underlying5) Tryd.underlying24 (zeroStr w) (keyof Tryd.underlying5 (low c) hll)
      rw [hG.no rfl (low c) hll]
      exact this
    | some b => exact look_run (P := Tryd.prog) (k := 5) (e := 9) (t := 24) Tryd.underlying5 Tryd.underlying24 zeroStr (hG.yes b rfl).2 (low c) hll
  have hcode : code f c t = if 4000 < (txt f c t).size then 12 else 0 := by unfold code; rw [if_neg (by rw [hn]; decide)]
  have hmm := @run_makeMap Tryd.prog
  obtain ⟨T, hT⟩ : ∃ T, txt f c t = T := ⟨_, rfl⟩
  have hTz : T.size ≤ 20000 := by
    rw [← hT]
    unfold txt
    split <;> first | (rw [ByteArray.size_append]; omega) | omega
  unfold PutP putF
  rw [hcode, hT]
  have hT2 : T = if big c = true then f (low c) ++ t else t := hT.symm
  clear hcode hT
  by_cases hs : 4000 < T.size
  · simp only [hs, if_true]
    rw [if_neg (by decide)]
    generalize low c = d at *
    generalize f d = y at *
    clear hf hG
    by_cases hb : big c = true
    · rw [if_pos hb] at hT2
      rw [hb] at SC
      subst hT2
      have hs2 : (4000 : Int) < (y.size : Int) + (t.size : Int) := by rw [ByteArray.size_append] at hs; omega
      clear hb hTz
      go_enter Tryd.func7, Tryd.ntmps7
      go_wp2_with fail
      refine (SC.out _).mono ?_; rintro e w9 ⟨rfl, rfl⟩
      go_wp2_with fail
      refine (NC.out _).mono ?_; rintro e w9 ⟨rfl, rfl⟩
      go_wp2_with fail
      go_ret
      exact ⟨mo, rfl, GH.out.mono (by omega), Keeps.refl _ _, fun b h => .inl h⟩
    · rw [if_neg hb] at hT2
      have hb' : big c = false := by simpa using hb
      rw [hb'] at SC
      have hs2 : (4000 : Int) < (t.size : Int) := by rw [← hT2]; omega
      clear hb hb'
      subst hT2
      go_enter Tryd.func7, Tryd.ntmps7
      go_wp2_with fail
      refine (SC.out _).mono ?_; rintro e w9 ⟨rfl, rfl⟩
      go_wp2_with fail
      refine (NC.out _).mono ?_; rintro e w9 ⟨rfl, rfl⟩
      go_wp2_with fail
      go_ret
      exact ⟨mo, rfl, GH.out.mono (by omega), Keeps.refl _ _, fun b h => .inl h⟩
  · simp only [hs, if_false, if_true]
    -- the memory of region 10, from a world in which the map is there
    have fin : ∀ (wB : World) (b : Nat), GR wB g (some b) f n C → Keeps (fun k => k = g ∨ mo = some k) w wB → (mo = some b ∨ w.heap.size ≤ b) → ∃ (st st' : Nat) (v v' : ByteArray) (w1 w2 w3 w4 : World),
        (Instr.mapEntry 24 (.map (some b)) (.int .u8 (low c : Int))).run Tryd.prog wB = .ok (.tuple #[.string v, .int .i64 (st : Int)]) w1 ∧
        (Instr.entryStore 24 (.map (some b)) (.int .i64 (st : Int)) (.string T)).run Tryd.prog w1 = .ok () w2 ∧
        (Instr.mapEntry 24 (.map (some b)) (.int .u8 34)).run Tryd.prog w2 = .ok (.tuple #[.string v', .int .i64 (st' : Int)]) w3 ∧
        (Instr.entryStore 24 (.map (some b)) (.int .i64 (st' : Int)) (.string T)).run Tryd.prog w3 = .ok () w4 ∧
        wB.cell? ⟨g, 0, none⟩ = some (.map (some b)) ∧ w1.cell? ⟨g, 0, none⟩ = some (.map (some b)) ∧ w2.cell? ⟨g, 0, none⟩ = some (.map (some b)) ∧ w3.cell? ⟨g, 0, none⟩ = some (.map (some b)) ∧ w4.cell? ⟨g, 0, none⟩ = some (.map (some b)) ∧
        ∃ mo', Ending.returned Value.nilIface = Ending.returned (errV 0) ∧ GR w4 g mo' (upd (upd f (low c) T) 34 T) (n + 2) C ∧ Keeps (fun k => k = g ∨ mo = some k) w w4 ∧ ∀ b, mo' = some b → mo = some b ∨ w.heap.size ≤ b := by
      intro wB b hB kB hbb
      obtain ⟨hbg, hMB⟩ := hB.yes b rfl
      obtain ⟨st, st', v, v', w1, w2, w3, w4, e1, e2, e3, e4, m4, k1, k2, k3, k4⟩ := put_mem hMB (low c) hll T
      have hgb : ¬ (g = b) := fun e => hbg e.symm
      refine ⟨st, st', v, v', w1, w2, w3, w4, e1, e2, e3, e4, hB.c0, k1.cell (p := ⟨g, 0, none⟩) hgb hB.c0, k2.cell (p := ⟨g, 0, none⟩) hgb hB.c0, k3.cell (p := ⟨g, 0, none⟩) hgb hB.c0, k4.cell (p := ⟨g, 0, none⟩) hgb hB.c0, some b, rfl, ⟨k4.cell (p := ⟨g, 0, none⟩) hgb hB.c0, fun i hi => k4.cell (p := ⟨g, i + 1, none⟩) hgb (hB.cs i hi), hB.len, fun j => (World.frozen?_of_block (w := wB) (a := ⟨g, j, none⟩) (k4.block g (World.block_lt_of_cell? wB _ hB.c0) hgb)).trans (hB.fz j), fun b' e => by cases e; exact ⟨hbg, m4⟩, fun e => by cases e⟩, kB.trans k4 (fun j e => by subst e; exact hbb.imp .inr id), fun b' e => by cases e; exact hbb⟩
    cases mo with
    | some b =>
      have heq : ∀ w : World, (binOp .eql 24 (.map (some b)) (.map none)).run Tryd.prog w = .ok (.bool false) w := fun w => run_eql_map_nil w _ _ _ _ Tryd.underlying24
      have GD := hG.drew
      obtain ⟨st, st', v, v', w1, w2, w3, w4, e1, e2, e3, e4, CB0, q1, q2, q3, q4, hfin⟩ := fin w.drew b GD ((Keeps.refl _ _).drew) (.inl rfl)
      have CB := Lib.hid CB0
      have FIN := Lib.hid hfin
      clear fin hfin hf hG GD CB0
      generalize low c = d at *
      generalize f d = y at *
      by_cases hb : big c = true
      · rw [if_pos hb] at hT2
        rw [hb] at SC
        subst hT2
        have hs2 : (y.size : Int) + (t.size : Int) ≤ 4000 := by rw [ByteArray.size_append] at hs; omega
        clear hb hTz hs
        go_enter Tryd.func7, Tryd.ntmps7
        go_wp2_with fail
        refine (SC.out _).mono ?_; rintro e w9 ⟨rfl, rfl⟩
        go_wp2_with fail
        refine (NC.out _).mono ?_; rintro e w9 ⟨rfl, rfl⟩
        go_wp2_with fail
        go_region_held3 (fun w' => w'.cell? ⟨g, 0, none⟩ = some (.map (some b))) (first | assumption | exact CB.out | go_keep) (fail)
        go_wp2_with fail
        go_ret
        exact FIN.out
      · rw [if_neg hb] at hT2
        have hb' : big c = false := by simpa using hb
        rw [hb'] at SC
        have hs2 : (t.size : Int) ≤ 4000 := by rw [← hT2]; omega
        clear hb hb' hs
        subst hT2
        go_enter Tryd.func7, Tryd.ntmps7
        go_wp2_with fail
        refine (SC.out _).mono ?_; rintro e w9 ⟨rfl, rfl⟩
        go_wp2_with fail
        refine (NC.out _).mono ?_; rintro e w9 ⟨rfl, rfl⟩
        go_wp2_with fail
        go_region_held3 (fun w' => w'.cell? ⟨g, 0, none⟩ = some (.map (some b))) (first | assumption | exact CB.out | go_keep) (fail)
        go_wp2_with fail
        go_ret
        exact FIN.out
    | none =>
      have heq : ∀ w : World, (binOp .eql 24 (.map none) (.map none)).run Tryd.prog w = .ok (.bool true) w := fun w => run_eql_map_nil w _ _ _ _ Tryd.underlying24
      obtain ⟨b, hb0⟩ : ∃ b, w.heap.size = b := ⟨_, rfl⟩
      have K1 : Keeps (fun k => k = g) (w.alloc (.map #[] 0)) ((w.alloc (.map #[] 0)).setCell ⟨g, 0, none⟩ (.map (some b))) := (Keeps.refl (fun k => k = g) _).setCell (p := ⟨g, 0, none⟩) (.inl rfl) _
      have K0 : Keeps (fun _ => False) w (w.alloc (.map #[] 0)) := (Keeps.refl _ _).alloc _
      have GD : GR ((w.alloc (.map #[] 0)).setCell ⟨g, 0, none⟩ (.map (some b))).drew g (some b) f n C := by
        have hA := hG.keeps K0 (fun x => x) (fun _ _ x => x)
        refine ⟨World.cell?_setCell_same _ _ _ hA.c0, fun i hi => (World.cell?_setCell_other _ _ _ _ (by intro hh; simp at hh)).trans (hA.cs i hi), hA.len, fun j => by
          show World.frozen? ((w.alloc (.map #[] 0)).setCell ⟨g, 0, none⟩ (.map (some b))) _ = _
          rw [frozen?_setCell]; exact hA.fz j, fun b' e => ?_, fun e => by cases e⟩
        cases e
        refine ⟨by omega, ?_⟩
        have hm0 := (((mp_made w).congr (g := f) (fun c hc => (hG.no rfl c hc).symm)).mono (Nat.zero_le n)).keeps K1 (by omega)
        rw [hb0] at hm0
        exact hm0
      have hcA : (w.alloc (.map #[] 0)).cell? ⟨g, 0, none⟩ = some (.map none) := (hG.keeps K0 (fun x => x) (fun _ _ x => x)).c0
      have hfA : (w.alloc (.map #[] 0)).frozen? ⟨g, 0, none⟩ = false := (hG.keeps K0 (fun x => x) (fun _ _ x => x)).fz 0
      obtain ⟨st, st', v, v', w1, w2, w3, w4, e1, e2, e3, e4, CB0, q1, q2, q3, q4, hfin⟩ := fin _ b GD (((K0.mono (fun _ x => x.elim)).setCell (p := ⟨g, 0, none⟩) (.inl (.inl rfl)) _).drew) (.inr (by omega))
      have CB := Lib.hid CB0
      have FIN := Lib.hid hfin
      clear fin hfin hf hG GD CB0 K0 K1
      generalize low c = d at *
      generalize f d = y at *
      by_cases hb : big c = true
      · rw [if_pos hb] at hT2
        rw [hb] at SC
        subst hT2
        have hs2 : (y.size : Int) + (t.size : Int) ≤ 4000 := by rw [ByteArray.size_append] at hs; omega
        clear hb hTz hs
        go_enter Tryd.func7, Tryd.ntmps7
        go_wp2_with fail
        refine (SC.out _).mono ?_; rintro e w9 ⟨rfl, rfl⟩
        go_wp2_with fail
        refine (NC.out _).mono ?_; rintro e w9 ⟨rfl, rfl⟩
        go_wp2_with fail
        go_region_held3 (fun w' => w'.cell? ⟨g, 0, none⟩ = some (.map (some b))) (first | assumption | exact CB.out | go_keep) (fail)
        go_wp2_with fail
        go_ret
        exact FIN.out
      · rw [if_neg hb] at hT2
        have hb' : big c = false := by simpa using hb
        rw [hb'] at SC
        have hs2 : (t.size : Int) ≤ 4000 := by rw [← hT2]; omega
        clear hb hb' hs
        subst hT2
        go_enter Tryd.func7, Tryd.ntmps7
        go_wp2_with fail
        refine (SC.out _).mono ?_; rintro e w9 ⟨rfl, rfl⟩
        go_wp2_with fail
        refine (NC.out _).mono ?_; rintro e w9 ⟨rfl, rfl⟩
        go_wp2_with fail
        go_region_held3 (fun w' => w'.cell? ⟨g, 0, none⟩ = some (.map (some b))) (first | assumption | exact CB.out | go_keep) (fail)
        go_wp2_with fail
        go_ret
        exact FIN.out
end Go.Proofs.YthkigjhbcempbaaDoor.Rg
