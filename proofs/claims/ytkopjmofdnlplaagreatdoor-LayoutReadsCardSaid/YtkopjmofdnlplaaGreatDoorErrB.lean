/-
  PROVED HERE: contracts of api.Tell, plain.Place and of the laws' own bare and placed, at each error that the program makes. Conditions: as each theorem states.
-/
import Derived.Test.YtkopjmofdnlplaaGreatDoorErr
import Derived.Test.YtkopjmofdnlplaaGreatDoorMem
namespace Go.Proofs.YtkopjmofdnlplaaGreatDoor.Err
open Go.RowKit Go.Extern.Stop Go.Stop Go.Extern

/-! ### api.Tell, plain.Place, bare -/
/-- What errors.As needs of memory: its own variable holds error's type. -/
def Home (w : World) : Prop := w.cell? ⟨0, 0, none⟩ = some (.iface 234 (.agg #[.pointer (some ⟨2, 34, none⟩)]))
theorem Home.below {w w' : World} (h : Home w) (hb : Below w.heap.size w w') : Home w' := (hb.cell (p := ⟨0, 0, none⟩) (block_lt h)).trans h
/-- The error v tells number n, and place p (-1: none). -/
def ErrIs (w : World) (v : Value) (n p : Int) : Prop :=
  (v = .nilIface ∧ n = 0 ∧ p = -1) ∨ (v = .iface 28 (.int .i64 n) ∧ p = -1) ∨
  ∃ b o, v = .iface 140 (.pointer (some ⟨b, o, none⟩)) ∧ w.cell? ⟨b, o, none⟩ = some (.int .i64 n) ∧ w.cell? ⟨b, o + 1, none⟩ = some (.int .i64 p)
theorem ErrIs.below {w w' : World} {v : Value} {n p : Int} (h : ErrIs w v n p) (hb : Below w.heap.size w w') : ErrIs w' v n p := by
  rcases h with h | h | ⟨b, o, e, h1, h2⟩
  · exact .inl h
  · exact .inr (.inl h)
  · exact .inr (.inr ⟨b, o, e, (hb.cell (p := ⟨b, o, none⟩) (block_lt h1)).trans h1, (hb.cell (p := ⟨b, o + 1, none⟩) (block_lt h2)).trans h2⟩)


theorem after_as (w : World) (o1 o2 o3 o4 : Obj) (t : Addr) (v old : Value) (ht0 : w.cell? t = some old) :
    (((((w.alloc o1).alloc o2).alloc o3).alloc o4).setCell t v).cell? t = some v ∧ Below t.block w (((((w.alloc o1).alloc o2).alloc o3).alloc o4).setCell t v) := by
  have htl := block_lt ht0
  refine ⟨?_, ?_⟩
  · rw [World.cell?_setCell_same _ _ _ (u := old)]
    rw [World.cell?_alloc_lt _ _ t (by simp; omega), World.cell?_alloc_lt _ _ t (by simp; omega), World.cell?_alloc_lt _ _ t (by simp; omega), World.cell?_alloc_lt _ _ t htl]; exact ht0
  · refine Below.setCell ?_ (Nat.le_refl _) _
    exact ((((Below.refl _ _).alloc (by omega) _).alloc (by simp; omega) _).alloc (by simp; omega) _).alloc (by simp; omega) _
theorem as_hit' (n : Int) (t : Addr) (old : Value) (w : World) (hg : Home w) (ht0 : w.cell? t = some old) (hf0 : w.frozen? t = false) :
    Calls Tryz.prog 125 #[.iface 28 (.int .i64 n), .iface 190 (.pointer (some t))] w fun ev w' => ev = .returned (.bool true) ∧ w'.cell? t = some (.int .i64 n) ∧ Below t.block w w' :=
  (as_hit n t old w hg ht0 hf0).mono fun _ _ ⟨he, hw⟩ => ⟨he, by rw [hw]; exact after_as w _ _ _ _ t _ old ht0⟩
theorem as_at' (n : Int) (b o : Nat) (t : Addr) (old : Value) (w : World) (hg : Home w) (hA : w.cell? ⟨b, o, none⟩ = some (.int .i64 n)) (ht0 : w.cell? t = some old) (hf0 : w.frozen? t = false) :
    Calls Tryz.prog 125 #[.iface 140 (.pointer (some ⟨b, o, none⟩)), .iface 190 (.pointer (some t))] w fun ev w' => ev = .returned (.bool true) ∧ w'.cell? t = some (.int .i64 n) ∧ Below t.block w w' :=
  (as_at n b o t old w hg hA ht0 hf0).mono fun _ _ ⟨he, hw⟩ => ⟨he, by rw [hw]; exact after_as w _ _ _ _ t _ old ht0⟩
theorem tell_nil (w : World) : Calls Tryz.prog 84 #[.nilIface] w fun e w' => e = .returned (.int .i64 0) ∧ w = w' := by
  go_enter Tryz.func84, Tryz.ntmps84
  go_wp2_with fail
  go_ret
  exact ⟨rfl, rfl⟩
set_option maxHeartbeats 1000000 in
theorem tell_errno (n : Int) (w : World) (hg : Home w) : Calls Tryz.prog 84 #[.iface 28 (.int .i64 n)] w fun e w' => e = .returned (.int .i64 n) ∧ Below w.heap.size w w' := by
  have hw := block_lt hg
  have hg1 : Home (w.alloc (.cells #[.int .i64 0] 28)) := hg.below ((Below.refl _ _).alloc (Nat.le_refl _) _)
  have H1 := Lib.hid hg1
  clear hg1
  have C := Lib.hid (as_hit' n ⟨w.heap.size, 0, none⟩ (.int .i64 0) _ H1.out (by simp) (by simp))
  go_enter Tryz.func84, Tryz.ntmps84
  go_wp2_with fail
  refine C.out.mono ?_
  rintro e w1 ⟨rfl, hc, hb⟩
  have hbH := Lib.hid hb
  clear hb
  go_wp2_with fail
  go_ret
  exact ⟨rfl, ((Below.refl _ _).alloc (Nat.le_refl _) _).trans hbH.out⟩
set_option maxHeartbeats 1000000 in
theorem tell_at (n : Int) (b o : Nat) (w : World) (hg : Home w) (hA : w.cell? ⟨b, o, none⟩ = some (.int .i64 n)) : Calls Tryz.prog 84 #[.iface 140 (.pointer (some ⟨b, o, none⟩))] w fun e w' => e = .returned (.int .i64 n) ∧ Below w.heap.size w w' := by
  have hw := block_lt hg
  have hg1 : Home (w.alloc (.cells #[.int .i64 0] 28)) := hg.below ((Below.refl _ _).alloc (Nat.le_refl _) _)
  have H1 := Lib.hid hg1
  clear hg1
  have C := Lib.hid (as_at' n b o ⟨w.heap.size, 0, none⟩ (.int .i64 0) _ H1.out (by rw [World.cell?_alloc_lt _ _ _ (block_lt hA)]; exact hA) (by simp) (by simp))
  go_enter Tryz.func84, Tryz.ntmps84
  go_wp2_with fail
  refine C.out.mono ?_
  rintro e w1 ⟨rfl, hc, hb⟩
  have hbH := Lib.hid hb
  clear hb
  go_wp2_with fail
  go_ret
  exact ⟨rfl, ((Below.refl _ _).alloc (Nat.le_refl _) _).trans hbH.out⟩

theorem noUnwrapE (v : Value) (xT : TypeId) (w : World) : (Instr.typeAssert (.iface 28 v) xT 145 true).run Tryz.prog w = .ok (.tuple #[.nilIface, .bool false]) w := run_typeAssert_lacksB Tryz.underlying145 (by kernel_rfl) (by kernel_rfl) v xT w
theorem assertAtE (n : Int) (w : World) : (Instr.typeAssert (.iface 28 (.int .i64 n)) 34 140 true).run Tryz.prog w = .ok (.tuple #[.pointer none, .bool false]) w := by kernel_rfl
theorem assertAtA (a : Addr) (w : World) : (Instr.typeAssert (.iface 140 (.pointer (some a))) 34 140 true).run Tryz.prog w = .ok (.tuple #[.pointer (some a), .bool true]) w := by kernel_rfl
theorem place_nil (w : World) : Calls Tryz.prog 42 #[.nilIface] w fun e w' => e = .returned (.tuple #[.int .i64 0, .int .i64 (-1)]) ∧ w = w' := by
  go_enter Tryz.func42, Tryz.ntmps42
  go_wp2_with fail
  refine (tell_nil _).mono ?_; rintro e w' ⟨rfl, rfl⟩
  go_wp2_with fail
  refine wp_loop_rounds 1 ?_
  rw [rounds_succ]
  go_wp2_with fail
  go_ret2
  exact ⟨rfl, rfl⟩
set_option maxRecDepth 100000 in
set_option maxHeartbeats 1000000 in
theorem place_errno (n : Int) (w : World) (hg : Home w) : Calls Tryz.prog 42 #[.iface 28 (.int .i64 n)] w fun e w' => e = .returned (.tuple #[.int .i64 n, .int .i64 (-1)]) ∧ Below w.heap.size w w' := by
  have nU := noUnwrapE
  have aE := assertAtE
  have H := Lib.hid hg
  clear hg
  go_enter Tryz.func42, Tryz.ntmps42
  go_wp2_with fail
  refine (tell_errno n _ H.out).mono ?_; rintro e w' ⟨rfl, hb⟩
  have hbH := Lib.hid hb
  clear hb
  go_wp2_with fail
  refine wp_loop_rounds 1 ?_
  rw [rounds_succ]
  go_wp2_with fail
  go_ret2
  exact ⟨rfl, hbH.out⟩
set_option maxRecDepth 100000 in
set_option maxHeartbeats 1000000 in
theorem place_at (n p : Int) (b o : Nat) (w : World) (hg : Home w) (h1 : w.cell? ⟨b, o, none⟩ = some (.int .i64 n)) (h2 : w.cell? ⟨b, o + 1, none⟩ = some (.int .i64 p)) :
    Calls Tryz.prog 42 #[.iface 140 (.pointer (some ⟨b, o, none⟩))] w fun e w' => e = .returned (.tuple #[.int .i64 n, .int .i64 p]) ∧ Below w.heap.size w w' := by
  have H := Lib.hid hg
  have C := Lib.hid (tell_at n b o w hg h1)
  have h2' := Lib.hid h2
  have aA := assertAtA
  clear hg h1 h2
  go_enter Tryz.func42, Tryz.ntmps42
  go_wp2_with fail
  refine C.out.mono ?_; rintro e w' ⟨rfl, hb⟩
  have hc : w'.cell? ⟨b, o + 1, none⟩ = some (.int .i64 p) := (hb.cell (p := ⟨b, o + 1, none⟩) (block_lt h2'.out)).trans h2'.out
  have hbH := Lib.hid hb
  clear hb
  go_wp2_with fail
  refine wp_loop_rounds 1 ?_
  rw [rounds_succ]
  go_wp2_with fail
  go_quiet (fail)
  go_wp2_with fail
  go_ret2
  exact ⟨rfl, below_drewN hbH.out _⟩
/-- plain.Place, at each error that the program makes. -/
theorem place_any (v : Value) (n p : Int) (w : World) (hg : Home w) (h : ErrIs w v n p) :
    Calls Tryz.prog 42 #[v] w fun e w' => e = .returned (.tuple #[.int .i64 n, .int .i64 p]) ∧ Below w.heap.size w w' := by
  rcases h with ⟨rfl, rfl, rfl⟩ | ⟨rfl, rfl⟩ | ⟨b, o, rfl, h1, h2⟩
  · exact (place_nil w).mono fun e w' ⟨he, hw⟩ => ⟨he, by subst hw; exact Below.refl _ _⟩
  · exact place_errno n w hg
  · exact place_at n p b o w hg h1 h2
/-- The laws' own bare. -/
theorem bare_any (v : Value) (n p x : Int) (w : World) (hg : Home w) (h : ErrIs w v n p) :
    Calls Tryz.prog 17 #[v, .int .i64 x] w fun e w' => e = .returned (.bool (n == x && p == -1)) ∧ Below w.heap.size w w' := by
  have C := Lib.hid (place_any v n p w hg h)
  clear hg h
  by_cases hx : n = x
  · subst hx
    go_enter Tryz.func17, Tryz.ntmps17
    go_wp2_with fail
    refine C.out.mono ?_; rintro e w' ⟨rfl, hb⟩
    have hbH := Lib.hid hb
    clear hb
    go_wp2_with fail
    go_ret
    exact ⟨ret_bool (by simp), hbH.out⟩
  · have hx' : (n == x) = false := by simpa using hx
    go_enter Tryz.func17, Tryz.ntmps17
    go_wp2_with fail
    refine C.out.mono ?_; rintro e w' ⟨rfl, hb⟩
    have hbH := Lib.hid hb
    clear hb
    go_wp2_with fail
    go_ret
    exact ⟨ret_bool (by simp [hx]), hbH.out⟩
end Go.Proofs.YtkopjmofdnlplaaGreatDoor.Err
