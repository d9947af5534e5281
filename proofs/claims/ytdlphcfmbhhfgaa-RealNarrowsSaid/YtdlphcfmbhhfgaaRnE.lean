/-
  PROVED HERE: the contract of the document's unitsLess. Conditions: as each theorem states.
-/
import Derived.Test.YtdlphcfmbhhfgaaRows
import Derived.Test.YtdlphcfmbhhfgaaRnC
import Derived.Test.YtdlphcfmbhhfgaaOwn
import Derived.Laws.Externs
import Derived.Deep.MidRow
import Derived.Deep.RegionWith
import Derived.Deep.RegionHeld3
import Derived.Deep.RegionLaw
import Derived.Deep.DrawnRows
namespace Go.Proofs.Ytdlphcfmbhhfgaa.Rn
open Go.RowKit
attribute [local go_sem ↓] Go.wp_at_zero Go.wp_at_succ
def sub64Entry : Array Value → Sem Value := fun args => do
  let (x, y, b) ← Extern.MathBitsCarry.three "Sub64" args
  pure (Extern.MathBitsCarry.pair ((x + Extern.MathBitsCarry.m64 - y - b) % Extern.MathBitsCarry.m64) (if x < y + b then 1 else 0))
theorem run_sub64 {P : Program} (x y k : Nat) (hk : k ≤ 1) (w : World) :
    (sub64Entry #[.int .u64 (x : Int), .int .u64 (y : Int), .int .u64 (k : Int)]).run P w =
      .ok (.tuple #[.int .u64 (((x + B64 - y - k) % B64 : Nat) : Int), .int .u64 ((if x < y + k then 1 else 0 : Nat) : Int)]) w := by
  rcases (show k = 0 ∨ k = 1 by omega) with rfl | rfl <;> rfl
theorem sub64 (x y k : Nat) (hk : k ≤ 1) (w : World) : (callFunc 19 #[.int .u64 (x : Int), .int .u64 (y : Int), .int .u64 (k : Int)]).run Try.prog w = .ok (.value (.tuple #[.int .u64 (((x + B64 - y - k) % B64 : Nat) : Int), .int .u64 ((if x < y + k then 1 else 0 : Nat) : Int)])) w := by
  rw [run_callFunc_extern Try.func19 (by kernel_rfl) (by kernel_rfl) (by kernel_rfl) (e := sub64Entry) (by kernel_rfl), run_sub64 x y k hk]
  rfl
def arr (n : Nat) : List Value := (List.range 34).map fun j => .int .u64 ((wo n j : Nat) : Int)
theorem arr_len (n : Nat) : (arr n).length = 34 := by simp [arr]
theorem arr_get (n j : Nat) (h : j < 34) : (arr n)[j]? = some (.int .u64 ((wo n j : Nat) : Int)) := by simp [arr, h]
/-- The first k words of one number, the others of another one. -/
def mix (d a k : Nat) : List Value := (List.range 34).map fun j => .int .u64 ((if j < k then wo d j else wo a j : Nat) : Int)
theorem mix_len (d a k : Nat) : (mix d a k).length = 34 := by simp [mix]
theorem mix_get (d a k j : Nat) (h : j < 34) : (mix d a k)[j]? = some (.int .u64 ((if j < k then wo d j else wo a j : Nat) : Int)) := by simp [mix, h]
theorem mix_zero (d a : Nat) : mix d a 0 = arr a := by simp [mix, arr]
theorem mix_all (d a : Nat) : mix d a 34 = arr d := by
  unfold mix arr
  apply List.map_congr_left
  intro j hj
  rw [if_pos (List.mem_range.1 hj)]
theorem infoU : (Try.prog.info? 42).map (·.size) = some 34 := by kernel_rfl
/-- A new block holds its cells, and they may be written. -/
theorem new_range (w : World) (C : Array Value) (t : TypeId) : (w.alloc (.cells C t)).rangeAt w.heap.size 0 C.toList ∧ (w.alloc (.cells C t)).there w.heap.size 0 C.size := by
  have hc : ∀ j, (w.alloc (.cells C t)).cell? ⟨w.heap.size, j, none⟩ = C[j]? := fun j => World.cell?_alloc_new _ _ _ _
  refine ⟨fun j v hv => ?_, fun j hj => ⟨?_, ?_⟩⟩
  · rw [Nat.zero_add, hc]
    simpa using hv
  · rw [Nat.zero_add, hc, Array.getElem?_eq_getElem hj]
    rfl
  · rw [World.frozen?_alloc_mark]
    simp
theorem mix_set {w : World} {g : Nat} {d a k : Nat} (h : w.rangeAt g 0 (mix d a k)) (hk : k < 34) (v : Value) (hv : v = .int .u64 ((wo d k : Nat) : Int)) : (w.setCell ⟨g, k, none⟩ v).rangeAt g 0 (mix d a (k + 1)) := fun j u hu => by
  have hj : j < 34 := by have := (List.getElem?_eq_some_iff.1 hu).1; rwa [mix_len] at this
  rw [mix_get _ _ _ _ hj] at hu
  rw [Nat.zero_add]
  have h0 := h j _ (mix_get d a k j hj)
  rw [Nat.zero_add] at h0
  by_cases e : j = k
  · subst e
    rw [World.cell?_setCell_same _ _ _ h0, hv, ← hu, if_pos (by omega)]
  · rw [World.cell?_setCell_other _ _ _ _ (by intro e2; injection e2 with _ e3; exact e e3.symm), h0, ← hu]
    by_cases c : j < k
    · rw [if_pos c, if_pos (by omega)]
    · rw [if_neg c, if_neg (by omega)]
theorem there_set {w : World} {b n : Nat} (h : w.there b 0 n) (a : Addr) (v : Value) : (w.setCell a v).there b 0 n := fun j hj => by
  obtain ⟨h1, h2⟩ := h j hj
  refine ⟨?_, by rw [World.frozen?_setCell]; exact h2⟩
  obtain ⟨u, hu⟩ := Option.isSome_iff_exists.1 h1
  by_cases e : a = ⟨b, 0 + j, none⟩
  · rw [e, World.cell?_setCell_same _ _ _ hu]; rfl
  · rw [World.cell?_setCell_other _ _ _ _ e, hu]; rfl
theorem range_set {w : World} {b : Nat} {cs : List Value} (h : w.rangeAt b 0 cs) {a : Addr} (ha : a.block ≠ b) (v : Value) : (w.setCell a v).rangeAt b 0 cs := fun j u hu => by
  rw [World.cell?_setCell_other _ _ _ _ (fun e => ha (by rw [e]))]
  exact h j u hu
theorem range_below {w w' : World} {b : Nat} {cs : List Value} (h : w.rangeAt b 0 cs) (hb : Below w.heap.size w w') : w'.rangeAt b 0 cs := fun j u hu => keepCell hb (h j u hu)
theorem there_below {w w' : World} {b n : Nat} (h : w.there b 0 n) (hb : Below w.heap.size w w') : w'.there b 0 n := fun j hj => by
  obtain ⟨h1, h2⟩ := h j hj
  obtain ⟨u, hu⟩ := Option.isSome_iff_exists.1 h1
  exact ⟨by rw [keepCell hb hu]; rfl, keepFree hb hu h2⟩
theorem below_cells' {B : Nat} {W w : World} (h : Below B W w) {b : Nat} (hb : B ≤ b) : ∀ (vs : List Value) (o : Nat), Below B W (w.setCells b o vs)
  | [], _ => h
  | v :: r, o => by
    rw [World.setCells]
    exact below_cells' (h.setCell (p := ⟨b, o, none⟩) hb v) hb r (o + 1)
theorem results_cell {fn : Func} {t : Tmp} {ty : TypeId} (h : fn.results = #[.cell t ty]) (tmps : Array Value) (P : Program) (w : World) (p : Addr) (v : Value) (hp : tmps.getD t undef = .pointer (some p)) (hl : (loadVar ty p).run P w = .ok v w) : (results fn tmps).run P w = .ok v w := by
  have hp' : tmps[t]?.getD undef = .pointer (some p) := by simpa using hp
  simp only [results, h]
  simp [hp']
  rw [show (asAddr (.pointer (some p))).run P w = .ok p w from rfl]
  exact hl
theorem arr_one (n : Nat) : (arr n).toArray.all (·.oneCell') = true := all_oneCell_toArray (fun v hv => by
  simp only [arr, List.mem_map] at hv
  obtain ⟨_, _, rfl⟩ := hv
  rfl)
theorem arr_size (n : Nat) : (arr n).toArray.size = 34 := by simp [arr]
set_option maxRecDepth 100000 in
set_option maxHeartbeats 4000000 in
theorem unitsLess_any (a b : Nat) (h : b ≤ a) (W : World) :
    Calls Try.prog 13 #[.agg (arr a).toArray, .agg (arr b).toArray] W fun e w' => e = .returned (.agg (arr (a - b)).toArray) ∧ Below W.heap.size W w' := by
  have n0 := new_range W (arr a).toArray 42
  have n1 := new_range (W.alloc (.cells (arr a).toArray 42)) (arr b).toArray 42
  have n2 := fun Z => new_range ((W.alloc (.cells (arr a).toArray 42)).alloc (.cells (arr b).toArray 42)) Z 42
  rw [World.size_alloc] at n1
  rw [List.toList_toArray, arr_size] at n0 n1
  simp only [World.size_alloc] at n2
  have B0 : ∀ Z, Below W.heap.size W (((W.alloc (.cells (arr a).toArray 42)).alloc (.cells (arr b).toArray 42)).alloc (.cells Z 42)) := fun Z => (((Below.refl _ _).alloc (Nat.le_refl _) _).alloc (by simp) _).alloc (by simp; omega) _
  have HZ0 : ∀ Z, (((W.alloc (.cells (arr a).toArray 42)).alloc (.cells (arr b).toArray 42)).alloc (.cells Z 42)).rangeAt W.heap.size 0 (mix (a - b) a 0) ∧ (((W.alloc (.cells (arr a).toArray 42)).alloc (.cells (arr b).toArray 42)).alloc (.cells Z 42)).rangeAt (W.heap.size + 1) 0 (arr b) ∧ (((W.alloc (.cells (arr a).toArray 42)).alloc (.cells (arr b).toArray 42)).alloc (.cells Z 42)).there W.heap.size 0 34 :=
    fun Z => ⟨by rw [mix_zero]; exact World.rangeAt_alloc (World.rangeAt_alloc n0.1 _) _, World.rangeAt_alloc n1.1 _, World.there_alloc (World.there_alloc n0.2 _) _⟩
  have HN2 := Lib.hid n2
  have HB0 := Lib.hid B0
  have HHZ := Lib.hid HZ0
  clear n0 n1 n2 B0 HZ0
  generalize hA : (arr a).toArray = A at *
  generalize hB : (arr b).toArray = B at *
  clear hA hB
  go_enter Try.func13, Try.ntmps13
  go_wp2_with fail
  generalize hZ : (#[Value.int .u64 0, Value.int .u64 0, Value.int .u64 0, Value.int .u64 0, Value.int .u64 0, Value.int .u64 0, Value.int .u64 0, Value.int .u64 0, Value.int .u64 0, Value.int .u64 0, Value.int .u64 0, Value.int .u64 0, Value.int .u64 0, Value.int .u64 0, Value.int .u64 0, Value.int .u64 0, Value.int .u64 0, Value.int .u64 0, Value.int .u64 0, Value.int .u64 0, Value.int .u64 0, Value.int .u64 0, Value.int .u64 0, Value.int .u64 0, Value.int .u64 0, Value.int .u64 0, Value.int .u64 0, Value.int .u64 0, Value.int .u64 0, Value.int .u64 0, Value.int .u64 0, Value.int .u64 0, Value.int .u64 0, Value.int .u64 0] : Array Value) = Z
  have hZs : Z.size = 34 := by rw [← hZ]; rfl
  have HT : Hid ((((W.alloc (.cells A 42)).alloc (.cells B 42)).alloc (.cells Z 42)).there (W.heap.size + 1 + 1) 0 34) := Lib.hid (by have := (HN2.out Z).2; rw [hZs] at this; exact this)
  have HB1 := Lib.hid (HB0.out Z)
  have HR1 := Lib.hid (HHZ.out Z)
  clear hZ hZs HN2 HB0 HHZ
  generalize ((W.alloc (.cells A 42)).alloc (.cells B 42)).alloc (.cells Z 42) = w0 at *
  go_loopw [5, 7] (fun bo i wr => ∃ k : Nat, k ≤ 34 ∧ i = .int .i64 (k : Int) ∧ bo = .int .u64 ((bw a b k : Nat) : Int) ∧ Hid (wr.rangeAt W.heap.size 0 (mix (a - b) a k)) ∧ Hid (wr.rangeAt (W.heap.size + 1) 0 (arr b)) ∧ Hid (wr.there W.heap.size 0 34) ∧ Hid (wr.there (W.heap.size + 1 + 1) 0 34) ∧ Hid (Below W.heap.size W wr)) (fun _ i _ => 34 - (intOf i).toNat)
  case atStart => exact ⟨0, by decide, rfl, by rw [bw_zero]; rfl, Lib.hid HR1.out.1, Lib.hid HR1.out.2.1, Lib.hid HR1.out.2.2, HT, HB1⟩
  case round =>
    obtain ⟨k, hk, rfl, rfl, R0, R1, T0, T2, HB2⟩ := hrel
    clear HR1 HT HB1
    by_cases hlt : k < 34
    · have c1 := R0.out k _ (mix_get (a - b) a k k hlt)
      have c2 := R1.out k _ (arr_get b k hlt)
      have f1 := (T0.out k hlt).2
      rw [Nat.zero_add] at c1 c2 f1
      rw [if_neg (Nat.lt_irrefl k)] at c1
      have hs := fun w => sub64 (wo a k) (wo b k) (bw a b k) (bw_le a b k) w
      obtain ⟨s1, s2⟩ := sub_step a b k h
      rw [← s1, ← s2] at hs
      have i1 : (0 : Int) ≤ (k : Int) := by omega
      have i2 : (k : Int) < 34 := by omega
      have l1 := wo_lt (a - b) k
      clear s1 s2
      generalize hd : wo (a - b) k = d at *
      generalize hnb : bw a b (k + 1) = nb at *
      have HNB := Lib.hid hnb
      clear hnb
      generalize bw a b k = ob at *
      generalize wo a k = x at *
      generalize wo b k = y at *
      have HD := Lib.hid hd
      clear hd
      go_wp2_with fail
      go_region_with fail
      all_goals
        go_wp2_with fail
        go_roundw
        case rel => exact ⟨k + 1, by omega, by go_num, by rw [HNB.out], Lib.hid ((World.rangeAt_drew _ _ _ _).2 (mix_set R0.out hlt _ (by rw [HD.out]))), Lib.hid ((World.rangeAt_drew _ _ _ _).2 (range_set R1.out (by simp) _)), Lib.hid ((World.there_drew _ _ _ _).2 (there_set T0.out _ _)), Lib.hid ((World.there_drew _ _ _ _).2 (there_set T2.out _ _)), Lib.hid (HB2.out.setCell (p := ⟨W.heap.size, k, none⟩) (Nat.le_refl _) _).drew⟩
        case measure => simp [intOf]; omega
    · obtain rfl : k = 34 := by omega
      rw [mix_all] at R0
      have hi : (Try.prog.info? 42).map (·.size) = some (arr (a - b)).length := by rw [arr_len]; exact infoU
      have hi2 : (Try.prog.info? 42).map (·.size) = some (arr (a - b)).toArray.size := by rw [arr_size]; exact infoU
      have HI := Lib.hid hi
      have HI2 := Lib.hid hi2
      clear hi hi2
      go_wp2_with (first
        | (refine wpList_load_mid rfl 42 _ rfl W.heap.size 0 rfl (arr (a - b)) _ R0.out Try.underlying42 rfl HI.out ?_)
        | (refine wpList_store_mid rfl 42 _ _ rfl (W.heap.size + 1 + 1) 0 (arr (a - b)).toArray rfl rfl (by rw [arr_size]; exact T2.out) HI2.out (arr_one _) ?_))
      have hl := run_loadVar_mid (P := Try.prog) _ _ _ 42 (arr (a - b)) _ (World.rangeAt_setCells_same wr (W.heap.size + 1 + 1) 0 (arr (a - b)) (by rw [arr_len]; exact T2.out)) Try.underlying42 rfl HI.out
      refine bodyPost_ret (v := .agg (arr (a - b)).toArray) (results_cell rfl _ _ _ _ _ rfl hl) rfl ⟨rfl, ?_⟩
      exact below_cells' HB2.out (by omega) _ _
end Go.Proofs.Ytdlphcfmbhhfgaa.Rn
