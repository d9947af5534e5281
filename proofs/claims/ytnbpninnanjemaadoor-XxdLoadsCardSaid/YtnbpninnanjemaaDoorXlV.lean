/-
  PROVED HERE: the contract of xxd.Load. Conditions: as each theorem states.
-/
import Derived.Test.YtnbpninnanjemaaDoorXlU
import Derived.Test.YtnbpninnanjemaaDoorXlB
namespace Go.Proofs.YtnbpninnanjemaaDoor.Xl
open Go.RowKit Go.Shelf Lz
attribute [local go_sem] Oper.semAt_some
def LoP (Z : Int × Int × List UInt8) (W : World) (e : Ending) (B : World) : Prop := ∃ v, e = .returned (.tuple #[.string ⟨Z.2.2.toArray⟩, v]) ∧ Err.ErrIs B v Z.1 Z.2.1 ∧ Below W.heap.size W B
/-- Between two rounds. -/
def IL (W : World) (s : ByteArray) (k : Nat) (A : World) : Prop := ∃ (v : Value) (out : List UInt8) (f : Nat), out.length ≤ 4000 ∧ f + tot ((LS s).drop k) = s.size + 1 ∧ ldl ((LS s).drop k) f out = ldl (LS s) 0 [] ∧ LB W v out f A
/-- A round has left by return. -/
def IXL (W : World) (s : ByteArray) (_ : Nat) (A : World) : Prop := (∃ v, (ldl (LS s) 0 []).2.2 = [] ∧ A.cell? ⟨W.heap.size, 0, none⟩ = some (.string ⟨#[]⟩) ∧ A.cell? ⟨W.heap.size + 1, 0, none⟩ = some v ∧ Err.ErrIs A v (ldl (LS s) 0 []).1 (ldl (LS s) 0 []).2.1) ∧ Below W.heap.size W A
theorem il_own (W : World) (s : ByteArray) : OwnFrom (W.heap.size + 7) (IL W s) := fun k A B row h hg hr => by
  obtain ⟨v, out, f, h1, h2, h3, h4⟩ := h
  refine ⟨v, out, f, h1, h2, h3, h4.grown hg fun r e => ⟨by have := (hr r e).1; omega, fun e2 => ?_⟩⟩
  obtain ⟨_, o, ho, hc⟩ := hr r e
  rw [(h4.own_cells r e2).2 o ho] at hc
  cases hc
theorem ixl_own (W : World) (s : ByteArray) : OwnFrom (W.heap.size + 7) (IXL W s) := OwnFrom.and (Own.from (fun k A B row h hg hr => by
  obtain ⟨v, h0, h1, h2, h3⟩ := h
  refine ⟨v, h0, cell_kept h1 hg hr, cell_kept h2 hg hr, ?_⟩
  rcases h3 with h | h | ⟨b, o, e, q1, q2⟩
  · exact .inl h
  · exact .inr (.inl h)
  · exact .inr (.inr ⟨b, o, e, cell_kept q1 hg hr, cell_kept q2 hg hr⟩)) _) (ownFrom_below (Nat.le_refl _) (by omega))
theorem scan_lt (l : ByteArray) (f : Nat) : ∀ (n i : Nat) (acc : List UInt8) (p : Nat), l.size - i ≤ n → (scan l f i acc).1 = some p → p < l.size := by
  intro n
  induction n using Nat.strongRecOn with
  | _ n ih =>
    intro i acc p hn hp
    by_cases h : i < l.size
    · by_cases h1 : ub l i = 32
      · by_cases h2 : f < i ∧ i + 1 < l.size ∧ ub l (i + 1) = 32
        · rw [scan_two h h1 h2] at hp; cases hp
        · rw [scan_blank h h1 h2] at hp
          exact ih (n - 1) (by omega) (i + 1) acc p (by omega) hp
      · by_cases h2 : l.size ≤ i + 1 ∨ dg l i < 0 ∨ dg l (i + 1) < 0
        · rw [scan_bad h h1 h2] at hp
          injection hp with hp
          omega
        · rw [scan_byte h h1 h2] at hp
          exact ih (n - 2) (by omega) (i + 2) _ p (by omega) hp
    · rw [scan_end (by omega)] at hp; cases hp
theorem ln_lt {l : ByteArray} {p : Nat} (h : (ln l).1 = some p) : p ≤ l.size := by
  unfold ln at h
  split at h
  · exact Nat.le_of_lt (scan_lt l _ _ _ _ p (Nat.le_refl _) h)
  · split at h
    · injection h with h; omega
    · exact Nat.le_of_lt (scan_lt l _ _ _ _ p (Nat.le_refl _) h)
theorem ln_at_le {l : ByteArray} {n : Nat} (h : (ln l).2.1 = some n) : n ≤ 4000 := by
  unfold ln at h
  split at h
  · cases h
  · split at h
    · cases h
    · injection h with h; omega
theorem ln_len (l : ByteArray) : (ln l).2.2.length ≤ l.size := by
  unfold ln
  have h1 := fun f => scan_len l f l.size f [] (by omega)
  split
  · exact Nat.le_trans (h1 0) (by simp)
  · split
    · simp
    · exact Nat.le_trans (h1 _) (by simp)
theorem sizeU8 : (Tryd.prog.info? 5).map (·.size) = some 1 := by kernel_rfl
theorem load_results (tmps : Array Value) (w : World) (A B : Addr) (x y : Value) (h6 : tmps.getD 2 undef = .pointer (some A)) (h7 : tmps.getD 3 undef = .pointer (some B)) (c6 : w.cell? A = some x) (c7 : w.cell? B = some y) :
    (results Tryd.f11 tmps).run Tryd.prog w = .ok (.tuple #[x, y]) w := by
  have h6' : tmps[2]?.getD undef = .pointer (some A) := by simpa using h6
  have h7' : tmps[3]?.getD undef = .pointer (some B) := by simpa using h7
  simp only [results, Tryd.f11]
  simp [go_sem, h6', h7', c6, c7]
/-- The cells of the call, and the world behind them. -/
def base (W : World) : World := (((W.alloc (.cells #[.string ⟨#[]⟩] 9)).alloc (.cells #[.nilIface] 26)).alloc (.cells #[.slice none 0 0] 41)).alloc (.cells #[.int .i64 0] 3)
theorem base_lb (W : World) (s : ByteArray) : LB W (.slice none 0 0) [] 0 (mkS (base W) s) := by
  have hz : (base W).heap.size = W.heap.size + 4 := by unfold base; simp
  have b5 := Boxed.new W 9 (.string ⟨#[]⟩)
  have b6 := Boxed.new (W.alloc (.cells #[.string ⟨#[]⟩] 9)) 26 .nilIface
  have b7 := Boxed.new ((W.alloc (.cells #[.string ⟨#[]⟩] 9)).alloc (.cells #[.nilIface] 26)) 41 (.slice none 0 0)
  have b8 := Boxed.new (((W.alloc (.cells #[.string ⟨#[]⟩] 9)).alloc (.cells #[.nilIface] 26)).alloc (.cells #[.slice none 0 0] 41)) 3 (.int .i64 0)
  rw [World.size_alloc] at b6
  rw [World.size_alloc, World.size_alloc] at b7
  rw [World.size_alloc, World.size_alloc, World.size_alloc] at b8
  have hbm : Below (base W).heap.size (base W) (mkS (base W) s) := (((Below.refl _ _).alloc (Nat.le_refl _) _).alloc (by simp) _).alloc (by simp; omega) _
  have hb0 : Below W.heap.size W (base W) := ((((Below.refl _ _).alloc (Nat.le_refl _) _).alloc (by simp) _).alloc (by simp; omega) _).alloc (by simp; omega) _
  have hg := below_grown hbm
  refine ⟨hb0.trans (hbm.mono (by omega)), by rw [mkS_size]; omega, ?_, ?_, ?_, ?_, own_nil _ _ _⟩
  · exact Boxed.kept (((b5.alloc _).alloc _).alloc _) hg (by simp)
  · exact Boxed.kept ((b6.alloc _).alloc _) hg (by simp)
  · exact Boxed.kept (b7.alloc _) hg (by simp)
  · exact Boxed.kept b8 hg (by simp)
/-- The world behind 'return "", &At{..}'. -/
def badW (W A1 : World) (q : Int) : World := (((A1.setCell ⟨W.heap.size, 0, none⟩ (.string ⟨#[]⟩)).setCell ⟨W.heap.size + 1, 0, none⟩ (.iface 61 (.pointer (some ⟨A1.heap.size, 0, none⟩)))).alloc (.cells #[.int .i64 3, .int .i64 q] 63)).drew
theorem bad_end {W A A1 : World} {s : ByteArray} {v : Value} {out : List UInt8} {f k p : Nat} (HB : LB W v out f A) (hB1 : Below A.heap.size A A1) (hZ : ldl (LS s) 0 [] = (3, ((f : Int) + (p : Int)), [])) :
    KeepsFrom (W.heap.size + 7) A (badW W A1 ((f : Int) + (p : Int))) ∧ IXL W s k (badW W A1 ((f : Int) + (p : Int))) := by
  have HB1 := HB.below hB1
  have g2 := HB1.b0.cell
  have g3 := HB1.b1.cell
  have e2 : ((A1.setCell ⟨W.heap.size, 0, none⟩ (.string ⟨#[]⟩)).setCell ⟨W.heap.size + 1, 0, none⟩ (.iface 61 (.pointer (some ⟨A1.heap.size, 0, none⟩)))).cell? ⟨W.heap.size, 0, none⟩ = some (.string ⟨#[]⟩) := by
    rw [World.cell?_setCell_other _ _ _ _ (by simp)]
    exact World.cell?_setCell_same _ _ _ g2
  have e3 : ((A1.setCell ⟨W.heap.size, 0, none⟩ (.string ⟨#[]⟩)).setCell ⟨W.heap.size + 1, 0, none⟩ (.iface 61 (.pointer (some ⟨A1.heap.size, 0, none⟩)))).cell? ⟨W.heap.size + 1, 0, none⟩ = some (.iface 61 (.pointer (some ⟨A1.heap.size, 0, none⟩))) :=
    World.cell?_setCell_same _ _ _ (by rw [World.cell?_setCell_other _ _ _ _ (by simp)]; exact g3)
  unfold badW
  refine ⟨(HB.st_below hB1).keeps.trans ((((KeepsOthers.setCell A1 ⟨W.heap.size, 0, none⟩ (.string ⟨#[]⟩)).trans (KeepsOthers.setCell _ ⟨W.heap.size + 1, 0, none⟩ _)).trans (KeepsOthers.alloc _ _)).trans (KeepsOthers.drew _) |>.from _), ⟨.iface 61 (.pointer (some ⟨A1.heap.size, 0, none⟩)), by rw [hZ], ?_, ?_, ?_⟩, ?_⟩
  · exact keepCell ((Below.refl _ _).alloc (Nat.le_refl _) _).drew e2
  · exact keepCell ((Below.refl _ _).alloc (Nat.le_refl _) _).drew e3
  · rw [hZ]
    exact .inr (.inr ⟨A1.heap.size, 0, rfl, World.cell?_alloc_at _ _ _ _ (by simp [World.setCell]), World.cell?_alloc_at _ _ _ _ (by simp [World.setCell])⟩)
  · exact (((HB1.bel.setCell (p := ⟨W.heap.size, 0, none⟩) (Nat.le_refl _) _).setCell (p := ⟨W.heap.size + 1, 0, none⟩) (show W.heap.size ≤ W.heap.size + 1 by omega) _).alloc (by have := HB1.sz; simp [World.setCell]; omega) _).drew
/-- The round's end: the place of the next line. -/
theorem next_end {W A A2 : World} {s l : ByteArray} {v : Value} {out : List UInt8} {f k : Nat} (hs : St W A A2) (HB : LB W v out f A2) (ho : out.length ≤ 4000) (hT : f + tot (l :: (LS s).drop (k + 1)) = s.size + 1) (hZ : ldl ((LS s).drop (k + 1)) (f + l.size + 1) out = ldl (LS s) 0 []) :
    KeepsFrom (W.heap.size + 7) A (A2.setCell ⟨W.heap.size + 1 + 1 + 1, 0, none⟩ (.int .i64 ((f : Int) + ((l.size : Int) + 1)))) ∧ KpS (W.heap.size + 4) A (A2.setCell ⟨W.heap.size + 1 + 1 + 1, 0, none⟩ (.int .i64 ((f : Int) + ((l.size : Int) + 1)))) ∧ IL W s (k + 1) (A2.setCell ⟨W.heap.size + 1 + 1 + 1, 0, none⟩ (.int .i64 ((f : Int) + ((l.size : Int) + 1)))) := by
  rw [show (f : Int) + ((l.size : Int) + 1) = ((f + l.size + 1 : Nat) : Int) by omega]
  have h := hs.trans (HB.st_from (.int .i64 ((f + l.size + 1 : Nat) : Int)))
  refine ⟨h.keeps, h.seq, v, out, f + l.size + 1, ho, by simp only [tot] at hT; omega, hZ, HB.from_⟩
theorem full_end {W A A1 : World} {s : ByteArray} {v : Value} {out : List UInt8} {f k : Nat} (HB : LB W v out f A) (hB1 : Below A.heap.size A A1) (hZ : ldl (LS s) 0 [] = (4, -1, [])) :
    KeepsFrom (W.heap.size + 7) A ((A1.setCell ⟨W.heap.size, 0, none⟩ (.string ⟨#[]⟩)).setCell ⟨W.heap.size + 1, 0, none⟩ (.iface 22 (.int .i64 4))) ∧ IXL W s k ((A1.setCell ⟨W.heap.size, 0, none⟩ (.string ⟨#[]⟩)).setCell ⟨W.heap.size + 1, 0, none⟩ (.iface 22 (.int .i64 4))) := by
  have HB1 := HB.below hB1
  have g2 := HB1.b0.cell
  have g3 := HB1.b1.cell
  have e2 : ((A1.setCell ⟨W.heap.size, 0, none⟩ (.string ⟨#[]⟩)).setCell ⟨W.heap.size + 1, 0, none⟩ (.iface 22 (.int .i64 4))).cell? ⟨W.heap.size, 0, none⟩ = some (.string ⟨#[]⟩) := by
    rw [World.cell?_setCell_other _ _ _ _ (by simp)]
    exact World.cell?_setCell_same _ _ _ g2
  have e3 : ((A1.setCell ⟨W.heap.size, 0, none⟩ (.string ⟨#[]⟩)).setCell ⟨W.heap.size + 1, 0, none⟩ (.iface 22 (.int .i64 4))).cell? ⟨W.heap.size + 1, 0, none⟩ = some (.iface 22 (.int .i64 4)) :=
    World.cell?_setCell_same _ _ _ (by rw [World.cell?_setCell_other _ _ _ _ (by simp)]; exact g3)
  exact ⟨(HB.st_below hB1).keeps.trans (((KeepsOthers.setCell A1 ⟨W.heap.size, 0, none⟩ (.string ⟨#[]⟩)).trans (KeepsOthers.setCell _ ⟨W.heap.size + 1, 0, none⟩ _)).from _), ⟨.iface 22 (.int .i64 4), by rw [hZ], e2, e3, by rw [hZ]; exact .inr (.inl ⟨rfl, rfl⟩)⟩,
    (HB1.bel.setCell (p := ⟨W.heap.size, 0, none⟩) (Nat.le_refl _) _).setCell (p := ⟨W.heap.size + 1, 0, none⟩) (show W.heap.size ≤ W.heap.size + 1 by omega) _⟩
set_option maxRecDepth 100000 in
set_option maxHeartbeats 8000000 in
theorem load_any (s : ByteArray) (hs : s.size ≤ 1500) (W : World) : Calls Tryd.prog 11 #[.string s] W (LoP (ldl (LS s) 0 []) W) := by
  have HLB := Lib.hid (base_lb W s)
  have CS := Lib.hid (splitSeq_any s (base W))
  have hz : (base W).heap.size = W.heap.size + 4 := by unfold base; simp
  rw [hz] at CS
  refine (callsIn_wide (n := 6)).1 ?_
  refine callsIn_of_wp_marks Tryd.func11 rfl trivial ?_ rfl
  simp only [Tryd.ntmps11, List.size_toArray, List.length_cons, List.length_nil, Nat.reduceAdd, Nat.reduceSub, Array.replicate_succ, Array.replicate_zero, List.push_toArray, List.append_toArray, List.nil_append, List.cons_append]
  gi_wp2_with (refine ⟨trivial, ?_⟩; gi_at_call 25; refine (callsIn_wide.2 CS.out).mono ?_; rintro e w1 ⟨rfl, rfl⟩)
  -- THE WALK
  have hbx := mkS_boxes (base W) s
  have hw : (mkS (base W) s).heap.size = W.heap.size + 7 := by rw [mkS_size, hz]
  have hG : GS (W.heap.size + 4) s (mkS (base W) s) := by
    rw [hz] at hbx
    exact ⟨hbx.1.cell, hbx.1.frozen, hbx.2.1.cell, hbx.2.2.cell⟩
  clear hbx hz CS
  generalize mkS (base W) s = w0 at *
  refine wpIn_rangeFunc_seq rfl (by decide) (gf := 43) (lb := #[.pointer (some ⟨W.heap.size + 4 + 1, 0, none⟩), .pointer (some ⟨W.heap.size + 4, 0, none⟩), .pointer (some ⟨W.heap.size + 4 + 2, 0, none⟩)]) rfl trivial (enters_of Tryd.func43 (by kernel_rfl) rfl)
    (split1_in 5 (by decide) (W.heap.size + 4) s hs) (fun A B ⟨v, e⟩ => by subst e; exact KeepsOthers.setCell _ _ _) (fun h k j hj => (k j hj).trans (h j hj)) (fun A l o o' hl _ _ j hj => World.putObj_heap_other (by omega))
    (fun o o' => hG.kept (fun j hj => by rw [Below.heap_alloc _ _ _ (by simp; omega), Below.heap_alloc _ _ _ (by omega)])) (fun _ => rfl)
    (IL W s) (IXL W s) (hw ▸ il_own W s) (hw ▸ ixl_own W s) (fun k A B ⟨v, out, f, h1, h2, h3, h4⟩ ⟨x, e⟩ => by subst e; exact ⟨v, out, f, h1, h2, h3, h4.turn _⟩)
    ⟨_, [], 0, by decide, by rw [List.drop_zero, Nat.zero_add]; exact LS_tot s, rfl, HLB.out⟩
    (fun x => { tmps := #[.string s, undef, .pointer (some ⟨W.heap.size, 0, none⟩), .pointer (some ⟨W.heap.size + 1, 0, none⟩), .pointer (some ⟨W.heap.size + 1 + 1, 0, none⟩), .pointer (some ⟨W.heap.size + 1 + 1 + 1, 0, none⟩), .string x, undef, undef, undef, undef, .string s, (.func (.func 43) #[] #[.pointer (some ⟨W.heap.size + 4 + 1, 0, none⟩), .pointer (some ⟨W.heap.size + 4, 0, none⟩), .pointer (some ⟨W.heap.size + 4 + 1 + 1, 0, none⟩)]), .string x, undef, undef, undef, undef, undef, undef, undef, undef, undef, undef, undef, undef, undef, undef, undef, undef, undef, undef, undef, undef, undef, undef, undef, undef, undef, undef, undef, undef, undef, undef, undef, undef, undef, undef, undef, undef, undef, undef, undef, undef, undef, undef, undef, undef, undef, undef, undef, undef, undef], defers := [] }) ?assign ?body ?done ?stop
  case assign =>
    intro l x W K hK
    gi_wp2
    exact hK
  case body =>
    rintro lp k hk A ⟨v, out, f, hol, hT, hZ, HB⟩
    rw [hw]
    have hmx : Tryd.prog.follows .mixedOrders = true := by kernel_rfl
    have hdr := List.drop_eq_getElem_cons hk
    generalize (LS s)[k] = l at hdr ⊢
    rw [hdr] at hT hZ
    have hls : l.size ≤ 1500 := by simp only [tot] at hT; omega
    have C : Hid (∀ W, Calls Tryd.prog 26 #[.string l] W fun e w' => e = .returned (lnV (ln l)) ∧ Below W.heap.size W w') := Lib.hid (line_any l (by omega))
    obtain ⟨Z, hZZ⟩ : ∃ Z, ldl (LS s) 0 [] = Z := ⟨_, rfl⟩
    rw [hZZ] at hZ
    have HL := Lib.hid HB
    have HZZ := Lib.hid hZZ
    clear hdr HLB hG hZZ
    have hlt := fun p => ln_lt (l := l) (p := p)
    have hat := fun n => ln_at_le (l := l) (n := n)
    have hle := ln_len l
    have hbad := fun p => ldl_bad (l := l) (r := (LS s).drop (k + 1)) (b := f) (p := p) (out := out)
    have hfull := ldl_full (l := l) (r := (LS s).drop (k + 1)) (b := f) (out := out)
    have hnext := ldl_next (l := l) (r := (LS s).drop (k + 1)) (b := f) (out := out)
    generalize ln l = L3 at *
    obtain ⟨p1, p2, p3⟩ := L3
    rcases p1 with _ | p
    · obtain ⟨adr, cap, rfl⟩ := HB.own.len
      rw [u8s_len] at HB HL
      have hf : f + l.size ≤ 1500 := by simp only [tot] at hT; omega
      simp only [lnV] at C
      clear hbad hlt
      rcases p2 with _ | n
      · by_cases h3 : p3 = []
        · subst h3
          have hZ3 : Hid (ldl ((LS s).drop (k + 1)) (f + l.size + 1) out = Z) := Lib.hid (by
            rw [← hZ, hnext rfl (by simp)]
            simp only [put_nil])
          clear hfull hnext hat hle hZ
          gi_wp2_with fail
          refine ⟨trivial, ?_⟩
          refine (CallsIn.inRound lp (callsIn_wide.2 (C.out _))).mono ?_
          rintro e A1 ⟨rfl, hB1⟩
          have HB1 := HB.below hB1
          have c5 := HB1.b3.cell
          have f5 := HB1.b3.frozen
          have c4 := HB1.b2.cell
          have f4 := HB1.b2.frozen
          have g2 := HB1.b0.cell
          have g3 := HB1.b1.cell
          have q2 := HB1.b0.frozen
          have q3 := HB1.b1.frozen
          have HB2 := Lib.hid hB1
          have HB3 := Lib.hid HB1
          clear HB1 hB1 HB
          gi_wp2
          exact next_end (HL.out.st_below HB2.out) HB3.out hol hT (by rw [HZZ.out]; exact hZ3.out)
        · obtain ⟨B, rfl⟩ : ∃ B : ByteArray, p3 = B.data.toList := ⟨⟨p3.toArray⟩, by simp⟩
          have hBB : (⟨B.data.toList.toArray⟩ : ByteArray) = B := by cases B; simp
          have hBs : B.data.toList.length = B.size := by rw [Lib.size_eq]
          rw [hBB] at C
          have hBne : ¬ B = ⟨#[]⟩ := fun e => h3 (by rw [e])
          have hB0 : B.size ≠ 0 := fun e => h3 (List.eq_nil_of_length_eq_zero (by rw [hBs, e]))
          have hBe := str_full B (by omega)
          have hle2 : B.size ≤ l.size := by rw [← hBs]; exact hle
          replace hfull := hfull rfl
          replace hnext := hnext rfl
          simp only [hBs] at hfull hnext
          by_cases hlim : 4000 < out.length + B.size
          · have hZ3 : Hid (Z = (4, -1, [])) := Lib.hid (by
              rw [← hZ]
              exact hfull ⟨hB0, hlim⟩)
            have hli : (4000 : Int) < (out.length : Int) + (B.size : Int) := by omega
            clear hfull hnext hat hle hZ h3 hBB hBs
            gi_wp2_with fail
            refine ⟨trivial, ?_⟩
            refine (CallsIn.inRound lp (callsIn_wide.2 (C.out _))).mono ?_
            rintro e A1 ⟨rfl, hB1⟩
            have HB1 := HB.below hB1
            have c5 := HB1.b3.cell
            have f5 := HB1.b3.frozen
            have c4 := HB1.b2.cell
            have f4 := HB1.b2.frozen
            have g2 := HB1.b0.cell
            have g3 := HB1.b1.cell
            have q2 := HB1.b0.frozen
            have q3 := HB1.b1.frozen
            have HB2 := Lib.hid hB1
            have HB3 := Lib.hid HB1
            clear HB1 hB1 HB
            gi_wp2
            exact full_end HL.out HB2.out (by rw [HZZ.out]; exact hZ3.out)
          · have hZ3 : Hid (ldl ((LS s).drop (k + 1)) (f + l.size + 1) (put out out.length B.data.toList) = Z) := Lib.hid (by
              rw [← hZ]
              exact (hnext (fun h => hlim h.2)).symm)
            have hli : (out.length : Int) + (B.size : Int) ≤ (4000 : Int) := by omega
            have HBs := Lib.hid hBs
            clear hfull hnext hat hle hZ h3 hBB hBs
            gi_wp2_with fail
            refine ⟨trivial, ?_⟩
            refine (CallsIn.inRound lp (callsIn_wide.2 (C.out _))).mono ?_
            rintro e A1 ⟨rfl, hB1⟩
            have HB1 := HB.below hB1
            have c5 := HB1.b3.cell
            have f5 := HB1.b3.frozen
            have c4 := HB1.b2.cell
            have f4 := HB1.b2.frozen
            have g2 := HB1.b0.cell
            have g3 := HB1.b1.cell
            have q2 := HB1.b0.frozen
            have q3 := HB1.b1.frozen
            have HB2 := Lib.hid hB1
            have HB3 := Lib.hid HB1
            clear HB1 hB1 HB
            gi_wp2
            gi_loopw [] (fun wr => ∃ (v2 : Value) (m : Nat), out.length ≤ m ∧ m ≤ max out.length (out.length + B.size) ∧ Hid (LB W v2 (pad out m) f wr) ∧ Hid (St W A wr)) (fun wr => out.length + B.size - lenAt (W.heap.size + 1 + 1) wr)
            case atStart => exact ⟨_, out.length, Nat.le_refl _, by omega, Lib.hid (by rw [pad_self]; exact HB3.out), Lib.hid (HL.out.st_below HB2.out)⟩
            case round =>
              clear c4 f4 c5 f5 g2 g3 q2 q3
              obtain ⟨v2, m, hm1, hm2, HM, HS⟩ := hrel
              obtain ⟨ad2, cap2, rfl⟩ := HM.out.own.len
              have hlm : (u8s (pad out m)).length = m := by rw [u8s_len, pad_len]; omega
              rw [hlm] at HM
              have c4 := HM.out.b2.cell
              have f4 := HM.out.b2.frozen
              by_cases hmore : m < out.length + B.size
              · have h1 : (m : Int) < (out.length : Int) + (B.size : Int) := by omega
                have HU : Hid (u8s (pad out m) ++ [.int .u8 0] = u8s (pad out (m + 1))) := Lib.hid (by rw [← pad_snoc hm1]; exact u8s_zero _)
                have HMA := Lib.hid (HM.out.alloc (.cells #[.int .u8 0] 5))
                have HSA := Lib.hid (HS.out.trans (HM.out.st_below ((Below.refl _ _).alloc (Nat.le_refl _) (.cells #[.int .u8 0] 5))))
                have L1 : Hid ((u8s (pad out m)).length + 1 ≤ 1000000000000) := Lib.hid (by rw [hlm]; omega)
                have L2 : Hid (((u8s (pad out m)).length + 1) * 1 ≤ 1000000000000) := Lib.hid (by rw [hlm]; omega)
                clear hlm
                gi_wp2_with (gi_at_builtin; refine own_append1_in rfl _ _ 41 rfl (W.heap.size + 7) 5 (.int .u8 0) 1 Tryd.underlying41 infoU8 rfl _ _ rfl HMA.out.own wr.heap.size 1 (.int .u8 0) rfl (new_cell _ _ _) rfl L2.out L1.out HMA.out.sz ?_; intro v' w1 ho hg; rw [HU.out] at ho; obtain ⟨x', c', hv'⟩ := ho.len; rw [u8s_len, pad_len, show max out.length (m + 1) = m + 1 by omega] at hv'; subst hv'; have HR := Lib.hid (HMA.out.row hg ho); have c4' := HR.out.1.cell; have f4' := HR.out.1.frozen; clear ho hg c4 f4)
                go_roundw
                case rel => first | exact ⟨_, m + 1, by omega, by omega, Lib.hid HR.out.2.1, Lib.hid (HSA.out.trans HR.out.2.2)⟩ | ((repeat apply Exists.intro); exact ⟨⟨_, m + 1, by omega, by omega, Lib.hid HR.out.2.1, Lib.hid (HSA.out.trans HR.out.2.2)⟩, rfl⟩)
                case measure => rw [lenAt_eq HR.out.2.1, lenAt_eq HM.out]; omega
              · have h1 : (out.length : Int) + (B.size : Int) ≤ (m : Int) := by omega
                have hpm : pad out m = pad out (out.length + B.size) := by
                  unfold pad
                  rw [show m - out.length = out.length + B.size - out.length by omega]
                have hB1 : 1 ≤ B.size := by omega
                have hpl := pad_len out m
                obtain ⟨g, hgg⟩ : ∃ g, ad2 = some ⟨g, 0, none⟩ := by
                  obtain ⟨g, e, _⟩ := HM.out.own.at_ 0 (by rw [hlm]; omega)
                  exact ⟨g, e⟩
                subst hgg
                have hcap : m ≤ cap2 := by
                  rcases HM.out.own.2 with ⟨h', _⟩ | ⟨g', cap', cur, h', hb, hg, h4, _⟩
                  · simp at h'
                  · simp only [Value.slice.injEq] at h'
                    omega
                obtain ⟨w2, hcp, ho2, hg2⟩ := own_copy HM.out.own 41 9 3 Tryd.underlying41 sizeU8 (out.length) (m - out.length) (cap2 - out.length) B (by omega) (by omega)
                rw [hpm] at ho2
                have hpe := put_eq out (out.length) B.data.toList (by rw [HBs.out]; exact hB0)
                rw [HBs.out] at hpe
                rw [hpe] at ho2
                have hpl2 : (put out (out.length) B.data.toList).length ≤ 4000 := by rw [put_len, HBs.out]; split <;> omega
                have HR := Lib.hid (HM.out.row0 hg2 ho2)
                have c5 := HR.out.1.b3.cell
                have f5 := HR.out.1.b3.frozen
                have i1 : ((out.length : Nat) : Int) ≤ (m : Int) := by omega
                have i2 : (0 : Int) ≤ ((out.length : Nat) : Int) := by omega
                clear ho2 hg2 hpe hpl hlm hpm
                gi_wp2
                exact next_end (HS.out.trans HR.out.2) HR.out.1 hpl2 hT (by rw [HZZ.out]; exact hZ3.out)
      · have hn4 := hat n rfl
        have hn0 : (0 : Int) ≤ (n : Int) := by omega
        by_cases h3 : p3 = []
        · subst h3
          have hZ3 : Hid (ldl ((LS s).drop (k + 1)) (f + l.size + 1) out = Z) := Lib.hid (by
            rw [← hZ, hnext rfl (by simp)]
            simp only [put_nil])
          clear hfull hnext hat hle hZ
          gi_wp2_with fail
          refine ⟨trivial, ?_⟩
          refine (CallsIn.inRound lp (callsIn_wide.2 (C.out _))).mono ?_
          rintro e A1 ⟨rfl, hB1⟩
          have HB1 := HB.below hB1
          have c5 := HB1.b3.cell
          have f5 := HB1.b3.frozen
          have c4 := HB1.b2.cell
          have f4 := HB1.b2.frozen
          have g2 := HB1.b0.cell
          have g3 := HB1.b1.cell
          have q2 := HB1.b0.frozen
          have q3 := HB1.b1.frozen
          have HB2 := Lib.hid hB1
          have HB3 := Lib.hid HB1
          clear HB1 hB1 HB
          gi_wp2
          exact next_end (HL.out.st_below HB2.out) HB3.out hol hT (by rw [HZZ.out]; exact hZ3.out)
        · obtain ⟨B, rfl⟩ : ∃ B : ByteArray, p3 = B.data.toList := ⟨⟨p3.toArray⟩, by simp⟩
          have hBB : (⟨B.data.toList.toArray⟩ : ByteArray) = B := by cases B; simp
          have hBs : B.data.toList.length = B.size := by rw [Lib.size_eq]
          rw [hBB] at C
          have hBne : ¬ B = ⟨#[]⟩ := fun e => h3 (by rw [e])
          have hB0 : B.size ≠ 0 := fun e => h3 (List.eq_nil_of_length_eq_zero (by rw [hBs, e]))
          have hBe := str_full B (by omega)
          have hle2 : B.size ≤ l.size := by rw [← hBs]; exact hle
          replace hfull := hfull rfl
          replace hnext := hnext rfl
          simp only [hBs] at hfull hnext
          by_cases hlim : 4000 < n + B.size
          · have hZ3 : Hid (Z = (4, -1, [])) := Lib.hid (by
              rw [← hZ]
              exact hfull ⟨hB0, hlim⟩)
            have hli : (4000 : Int) < (n : Int) + (B.size : Int) := by omega
            clear hfull hnext hat hle hZ h3 hBB hBs
            gi_wp2_with fail
            refine ⟨trivial, ?_⟩
            refine (CallsIn.inRound lp (callsIn_wide.2 (C.out _))).mono ?_
            rintro e A1 ⟨rfl, hB1⟩
            have HB1 := HB.below hB1
            have c5 := HB1.b3.cell
            have f5 := HB1.b3.frozen
            have c4 := HB1.b2.cell
            have f4 := HB1.b2.frozen
            have g2 := HB1.b0.cell
            have g3 := HB1.b1.cell
            have q2 := HB1.b0.frozen
            have q3 := HB1.b1.frozen
            have HB2 := Lib.hid hB1
            have HB3 := Lib.hid HB1
            clear HB1 hB1 HB
            gi_wp2
            exact full_end HL.out HB2.out (by rw [HZZ.out]; exact hZ3.out)
          · have hZ3 : Hid (ldl ((LS s).drop (k + 1)) (f + l.size + 1) (put out n B.data.toList) = Z) := Lib.hid (by
              rw [← hZ]
              exact (hnext (fun h => hlim h.2)).symm)
            have hli : (n : Int) + (B.size : Int) ≤ (4000 : Int) := by omega
            have HBs := Lib.hid hBs
            clear hfull hnext hat hle hZ h3 hBB hBs
            gi_wp2_with fail
            refine ⟨trivial, ?_⟩
            refine (CallsIn.inRound lp (callsIn_wide.2 (C.out _))).mono ?_
            rintro e A1 ⟨rfl, hB1⟩
            have HB1 := HB.below hB1
            have c5 := HB1.b3.cell
            have f5 := HB1.b3.frozen
            have c4 := HB1.b2.cell
            have f4 := HB1.b2.frozen
            have g2 := HB1.b0.cell
            have g3 := HB1.b1.cell
            have q2 := HB1.b0.frozen
            have q3 := HB1.b1.frozen
            have HB2 := Lib.hid hB1
            have HB3 := Lib.hid HB1
            clear HB1 hB1 HB
            gi_wp2
            gi_loopw [] (fun wr => ∃ (v2 : Value) (m : Nat), out.length ≤ m ∧ m ≤ max out.length (n + B.size) ∧ Hid (LB W v2 (pad out m) f wr) ∧ Hid (St W A wr)) (fun wr => n + B.size - lenAt (W.heap.size + 1 + 1) wr)
            case atStart => exact ⟨_, out.length, Nat.le_refl _, by omega, Lib.hid (by rw [pad_self]; exact HB3.out), Lib.hid (HL.out.st_below HB2.out)⟩
            case round =>
              clear c4 f4 c5 f5 g2 g3 q2 q3
              obtain ⟨v2, m, hm1, hm2, HM, HS⟩ := hrel
              obtain ⟨ad2, cap2, rfl⟩ := HM.out.own.len
              have hlm : (u8s (pad out m)).length = m := by rw [u8s_len, pad_len]; omega
              rw [hlm] at HM
              have c4 := HM.out.b2.cell
              have f4 := HM.out.b2.frozen
              by_cases hmore : m < n + B.size
              · have h1 : (m : Int) < (n : Int) + (B.size : Int) := by omega
                have HU : Hid (u8s (pad out m) ++ [.int .u8 0] = u8s (pad out (m + 1))) := Lib.hid (by rw [← pad_snoc hm1]; exact u8s_zero _)
                have HMA := Lib.hid (HM.out.alloc (.cells #[.int .u8 0] 5))
                have HSA := Lib.hid (HS.out.trans (HM.out.st_below ((Below.refl _ _).alloc (Nat.le_refl _) (.cells #[.int .u8 0] 5))))
                have L1 : Hid ((u8s (pad out m)).length + 1 ≤ 1000000000000) := Lib.hid (by rw [hlm]; omega)
                have L2 : Hid (((u8s (pad out m)).length + 1) * 1 ≤ 1000000000000) := Lib.hid (by rw [hlm]; omega)
                clear hlm
                gi_wp2_with (gi_at_builtin; refine own_append1_in rfl _ _ 41 rfl (W.heap.size + 7) 5 (.int .u8 0) 1 Tryd.underlying41 infoU8 rfl _ _ rfl HMA.out.own wr.heap.size 1 (.int .u8 0) rfl (new_cell _ _ _) rfl L2.out L1.out HMA.out.sz ?_; intro v' w1 ho hg; rw [HU.out] at ho; obtain ⟨x', c', hv'⟩ := ho.len; rw [u8s_len, pad_len, show max out.length (m + 1) = m + 1 by omega] at hv'; subst hv'; have HR := Lib.hid (HMA.out.row hg ho); have c4' := HR.out.1.cell; have f4' := HR.out.1.frozen; clear ho hg c4 f4)
                go_roundw
                case rel => first | exact ⟨_, m + 1, by omega, by omega, Lib.hid HR.out.2.1, Lib.hid (HSA.out.trans HR.out.2.2)⟩ | ((repeat apply Exists.intro); exact ⟨⟨_, m + 1, by omega, by omega, Lib.hid HR.out.2.1, Lib.hid (HSA.out.trans HR.out.2.2)⟩, rfl⟩)
                case measure => rw [lenAt_eq HR.out.2.1, lenAt_eq HM.out]; omega
              · have h1 : (n : Int) + (B.size : Int) ≤ (m : Int) := by omega
                have hpm : pad out m = pad out (n + B.size) := by
                  unfold pad
                  rw [show m - out.length = n + B.size - out.length by omega]
                have hB1 : 1 ≤ B.size := by omega
                have hpl := pad_len out m
                obtain ⟨g, hgg⟩ : ∃ g, ad2 = some ⟨g, 0, none⟩ := by
                  obtain ⟨g, e, _⟩ := HM.out.own.at_ 0 (by rw [hlm]; omega)
                  exact ⟨g, e⟩
                subst hgg
                have hcap : m ≤ cap2 := by
                  rcases HM.out.own.2 with ⟨h', _⟩ | ⟨g', cap', cur, h', hb, hg, h4, _⟩
                  · simp at h'
                  · simp only [Value.slice.injEq] at h'
                    omega
                obtain ⟨w2, hcp, ho2, hg2⟩ := own_copy HM.out.own 41 9 3 Tryd.underlying41 sizeU8 (n) (m - n) (cap2 - n) B (by omega) (by omega)
                rw [hpm] at ho2
                have hpe := put_eq out (n) B.data.toList (by rw [HBs.out]; exact hB0)
                rw [HBs.out] at hpe
                rw [hpe] at ho2
                have hpl2 : (put out (n) B.data.toList).length ≤ 4000 := by rw [put_len, HBs.out]; split <;> omega
                have HR := Lib.hid (HM.out.row0 hg2 ho2)
                have c5 := HR.out.1.b3.cell
                have f5 := HR.out.1.b3.frozen
                have i1 : ((n : Nat) : Int) ≤ (m : Int) := by omega
                have i2 : (0 : Int) ≤ ((n : Nat) : Int) := by omega
                clear ho2 hg2 hpe hpl hlm hpm
                gi_wp2
                exact next_end (HS.out.trans HR.out.2) HR.out.1 hpl2 hT (by rw [HZZ.out]; exact hZ3.out)
    · have hpl := hlt p rfl
      have hZ3 : Hid (Z = (3, (f : Int) + (p : Int), [])) := Lib.hid (by rw [← hZ, ← Int.natCast_add]; exact hbad p rfl)
      have hf : f ≤ 1501 := by omega
      simp only [lnV] at C
      clear hbad hfull hnext hat hle hlt hZ
      gi_wp2_with fail
      refine ⟨trivial, ?_⟩
      refine (CallsIn.inRound lp (callsIn_wide.2 (C.out _))).mono ?_
      rintro e A1 ⟨rfl, hB1⟩
      have HB1 := HB.below hB1
      have c5 := HB1.b3.cell
      have g2 := HB1.b0.cell
      have g3 := HB1.b1.cell
      have q2 := HB1.b0.frozen
      have q3 := HB1.b1.frozen
      have n2 := HB1.b0.lt
      have n3 := HB1.b1.lt
      have m2 : ¬ W.heap.size = A1.heap.size := by omega
      have m3 : ¬ W.heap.size + 1 = A1.heap.size := by omega
      have w1 : IntKind.i64.wrap ((f : Int) + (p : Int)) = (f : Int) + (p : Int) := IntWalk.i64_in _ (by omega)
      have HB2 := Lib.hid hB1
      clear HB1 hB1 HB
      gi_wp2_with fail
      gi_region_with_o fail
      all_goals gi_wp2
      all_goals exact bad_end HL.out HB2.out (by rw [HZZ.out]; exact hZ3.out)
  case done =>
    rintro D A hD ⟨v, out, f, hol, hT, hZ, HB⟩ hK
    rw [List.drop_length] at hZ
    have hZ2 : Hid (ldl (LS s) 0 [] = (0, -1, out)) := Lib.hid hZ.symm
    clear hZ hT
    have hstr := own_string (T := 41) (S := 9) HB.own Tryd.underlying41 Tryd.underlying5 Tryd.underlying9
    have c4 := HB.b2.cell
    have g2 := HB.b0.cell
    have g3 := HB.b1.cell
    have q2 := HB.b0.frozen
    have q3 := HB.b1.frozen
    gi_wp2
    have hK' := ((KeepsOthers.setCell A ⟨W.heap.size, 0, none⟩ (.string ⟨out.toArray⟩)).trans (KeepsOthers.setCell _ ⟨W.heap.size + 1, 0, none⟩ .nilIface)).same D _ hK rfl
    have q6 : ((A.setCell ⟨W.heap.size, 0, none⟩ (.string ⟨out.toArray⟩)).setCell ⟨W.heap.size + 1, 0, none⟩ .nilIface).cell? ⟨W.heap.size, 0, none⟩ = some (.string ⟨out.toArray⟩) := by
      rw [World.cell?_setCell_other _ _ _ _ (by simp)]
      exact World.cell?_setCell_same _ _ _ g2
    have q7 : ((A.setCell ⟨W.heap.size, 0, none⟩ (.string ⟨out.toArray⟩)).setCell ⟨W.heap.size + 1, 0, none⟩ .nilIface).cell? ⟨W.heap.size + 1, 0, none⟩ = some .nilIface :=
      World.cell?_setCell_same _ _ _ (by rw [World.cell?_setCell_other _ _ _ _ (by simp)]; exact g3)
    have hBW2 := (HB.bel.setCell (p := ⟨W.heap.size, 0, none⟩) (Nat.le_refl _) (.string ⟨out.toArray⟩)).setCell (p := ⟨W.heap.size + 1, 0, none⟩) (show W.heap.size ≤ W.heap.size + 1 by omega) .nilIface
    generalize (A.setCell ⟨W.heap.size, 0, none⟩ (.string ⟨out.toArray⟩)).setCell ⟨W.heap.size + 1, 0, none⟩ .nilIface = A2 at *
    refine ⟨by simp, .inl ⟨_, _, rfl, run_takeDeferred hK', ?_⟩⟩
    have r6 := cell_kept q6 (grownBy_putObj' _ D (.deferred none)) (fun r e => by cases e; exact ⟨_, hK', rfl⟩)
    have r7 := cell_kept q7 (grownBy_putObj' _ D (.deferred none)) (fun r e => by cases e; exact ⟨_, hK', rfl⟩)
    refine ⟨_, load_results _ _ ⟨W.heap.size, 0, none⟩ ⟨W.heap.size + 1, 0, none⟩ _ _ rfl rfl r6 r7, .nilIface, by rw [hZ2.out], .inl ⟨rfl, by rw [hZ2.out], by rw [hZ2.out]⟩, hBW2.trans (belowK_b (w := W) (Nat.le_refl _) A2 D _ _ (by omega) hK' rfl rfl)⟩
  case stop =>
    rintro D k A hD hk ⟨⟨v, h0, c0, c1, hE⟩, hB⟩ hK
    gi_wp2
    refine ⟨by simp, .inl ⟨_, _, rfl, run_takeDeferred hK, ?_⟩⟩
    have r6 := cell_kept c0 (grownBy_putObj' _ D (.deferred none)) (fun r e => by cases e; exact ⟨_, hK, rfl⟩)
    have r7 := cell_kept c1 (grownBy_putObj' _ D (.deferred none)) (fun r e => by cases e; exact ⟨_, hK, rfl⟩)
    refine ⟨_, load_results _ _ ⟨W.heap.size, 0, none⟩ ⟨W.heap.size + 1, 0, none⟩ _ _ rfl rfl r6 r7, v, by rw [h0], ?_, hB.trans (belowK_b (w := W) (Nat.le_refl _) A D _ _ (by omega) hK rfl rfl)⟩
    rcases hE with h | h | ⟨b, o, e, q1, q2⟩
    · exact .inl h
    · exact .inr (.inl h)
    · exact .inr (.inr ⟨b, o, e, cell_kept q1 (grownBy_putObj' _ D (.deferred none)) (fun r e => by cases e; exact ⟨_, hK, rfl⟩), cell_kept q2 (grownBy_putObj' _ D (.deferred none)) (fun r e => by cases e; exact ⟨_, hK, rfl⟩)⟩)
end Go.Proofs.YtnbpninnanjemaaDoor.Xl
