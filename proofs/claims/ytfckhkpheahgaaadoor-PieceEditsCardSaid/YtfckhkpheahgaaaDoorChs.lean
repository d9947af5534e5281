/-
  PROVED HERE: lists of the laws' Change, as they came in. Conditions: as each theorem states.
-/
import Derived.Test.YtfckhkpheahgaaaDoorRows
import Derived.Test.YtfckhkpheahgaaaDoorOwn
import Derived.Deep.Slices
import Derived.Deep.Fields
import Derived.OpenShut
namespace Go.Proofs.YtfckhkpheahgaaaDoor
open Go.RowKit
structure Chg where
  of : Int
  pl : Int
  out : Int
  inn : ByteArray
def I64 (x : Int) : Prop := -9223372036854775808 ≤ x ∧ x ≤ 9223372036854775807
def Chg.fit (e : Chg) : Prop := I64 e.of ∧ I64 e.pl ∧ I64 e.out
/-- The cells of one change stand at ad. -/
def Chg.In (w : World) (ad : Addr) (m : Nat) (e : Chg) : Prop :=
  w.cell? (ad.add m) = some (.int .i64 e.of) ∧ w.cell? (ad.add (m + 1)) = some (.int .i64 e.pl) ∧ w.cell? (ad.add (m + 2)) = some (.int .i64 e.out) ∧ w.cell? (ad.add (m + 3)) = some (.string e.inn) ∧ e.fit
/-- The slice v shows l. -/
def Chs (w : World) (v : Value) (l : List Chg) : Prop :=
  ∃ a cap, v = .slice a l.length cap ∧ ∀ j (h : j < l.length), ∃ ad, a = some ad ∧ l[j].In w ad (j * 4)
theorem Chg.In.below {w w' : World} {ad : Addr} {m : Nat} {e : Chg} (h : e.In w ad m) (hb : Below w.heap.size w w') : e.In w' ad m := by
  obtain ⟨h1, h2, h3, h4, h5⟩ := h
  exact ⟨keepCell hb h1, keepCell hb h2, keepCell hb h3, keepCell hb h4, h5⟩
theorem Chs.below {w w' : World} {v : Value} {l : List Chg} (h : Chs w v l) (hb : Below w.heap.size w w') : Chs w' v l := by
  obtain ⟨a, cap, e, hc⟩ := h
  refine ⟨a, cap, e, fun j hj => ?_⟩
  obtain ⟨ad, h1, h2⟩ := hc j hj
  exact ⟨ad, h1, h2.below hb⟩
theorem cadd_next (ad : Addr) (m i : Nat) : ad.add (m + (i + 1)) = ⟨(ad.add m).block, (ad.add m).off + (i + 1), none⟩ := by
  unfold Addr.add
  by_cases h : m = 0
  · subst h; simp
  · simp [h, Nat.add_assoc]
/-- The four cells, as a walk reckons their addresses. -/
theorem Chs.at_ {w : World} {a : Option Addr} {n cap : Nat} {l : List Chg} (h : Chs w (.slice a n cap) l) (j : Nat) (hj : j < l.length) : ∃ ad, a = some ad ∧ w.cell? (ad.add (j * 4)) = some (.int .i64 l[j].of) ∧ w.cell? ⟨(ad.add (j * 4)).block, (ad.add (j * 4)).off + 1, none⟩ = some (.int .i64 l[j].pl) ∧ w.cell? ⟨(ad.add (j * 4)).block, (ad.add (j * 4)).off + 2, none⟩ = some (.int .i64 l[j].out) ∧ w.cell? ⟨(ad.add (j * 4)).block, (ad.add (j * 4)).off + 3, none⟩ = some (.string l[j].inn) ∧ l[j].fit := by
  obtain ⟨a', cap', e, hc⟩ := h
  simp only [Value.slice.injEq] at e
  obtain ⟨rfl, _, _⟩ := e
  obtain ⟨ad, h1, h2, h3, h4, h5, h6⟩ := hc j hj
  exact ⟨ad, h1, h2, by rw [← cadd_next ad (j * 4) 0]; exact h3, by rw [← cadd_next ad (j * 4) 1]; exact h4, by rw [← cadd_next ad (j * 4) 2]; exact h5, h6⟩
section
open Go.WideShapes Go.ChangeShapes Go.Deep
variable {H : Type} {enc : TypeId × Value → H}
theorem chs_of_trod {W : World} {sp : Nat → Bool} {held : Bool} {a : Option Addr} {len cap : Nat} {d : DataW H} {p : List MemPlace}
    (h : DataW.Trod enc Tryd.prog W 0 sp held 22 (.slice a len cap) d p) : ∃ l : List Chg, l.length = len ∧ Chs W (.slice a len cap) l := by
  obtain ⟨f, hf⟩ := h
  have hC : Tryd.prog.cellsOf 30 = 4 := by kernel_rfl
  rcases open_slice Tryd.underlying22 hf with ⟨hcs, _⟩ | ⟨ad, len', cap', m, n, D, Pl, hcs, _, hl, _, hm, _, hi⟩
  · simp [Value.cells] at hcs
    obtain ⟨rfl, rfl, rfl⟩ := hcs
    exact ⟨[], rfl, ⟨none, 0, rfl, fun j hj => absurd hj (Nat.not_lt_zero j)⟩⟩
  · simp [Value.cells] at hcs
    obtain ⟨rfl, rfl, rfl⟩ := hcs
    have hml : len ≤ m := by rw [hm]; split <;> omega
    have one : ∀ i, i < len → ∃ e : Chg, e.In W ad (i * 4) := by
      intro i hil
      obtain ⟨cs', hc, ht⟩ := hi i (by omega)
      rw [hC] at hc
      obtain ⟨_, hcl, hat⟩ := World.cells?_some hc
      obtain ⟨ys, n', _, _, _, hyl, hg⟩ := DataW.trod_struct Tryd.underlying30 ht
      rcases cs' with _ | ⟨c0, _ | ⟨c1, _ | ⟨c2, _ | ⟨c3, _ | ⟨_, _⟩⟩⟩⟩⟩ <;> simp only [List.length_nil, List.length_cons] at hcl <;> try omega
      rcases ys with _ | ⟨y0, _ | ⟨y1, _ | ⟨y2, _ | ⟨y3, _ | ⟨_, _⟩⟩⟩⟩⟩ <;> simp only [List.length_nil, List.length_cons] at hyl <;> try (simp at hyl)
      have k0 : Tryd.prog.cellsOf 3 = 1 := by kernel_rfl
      have k2 : Tryd.prog.cellsOf 9 = 1 := by kernel_rfl
      have g0 : DataW.trod enc Tryd.prog W 0 sp held n' 3 (([c0, c1, c2, c3].drop 0).take (Tryd.prog.cellsOf 3)) = some y0 := hg 0 _ rfl
      have g1 : DataW.trod enc Tryd.prog W 0 sp held n' 3 (([c0, c1, c2, c3].drop 1).take (Tryd.prog.cellsOf 3)) = some y1 := hg 1 _ rfl
      have g2 : DataW.trod enc Tryd.prog W 0 sp held n' 3 (([c0, c1, c2, c3].drop 2).take (Tryd.prog.cellsOf 3)) = some y2 := hg 2 _ rfl
      have g3 : DataW.trod enc Tryd.prog W 0 sp held n' 9 (([c0, c1, c2, c3].drop 3).take (Tryd.prog.cellsOf 9)) = some y3 := hg 3 _ rfl
      rw [k0] at g0 g1 g2
      rw [k2] at g3
      obtain ⟨x0, e0, _, b0⟩ := DataW.trod_int Tryd.underlying3 g0
      obtain ⟨x1, e1, _, b1⟩ := DataW.trod_int Tryd.underlying3 g1
      obtain ⟨x2, e2, _, b2⟩ := DataW.trod_int Tryd.underlying3 g2
      obtain ⟨x3, e3, _, _⟩ := DataW.trod_string Tryd.underlying9 g3
      simp at e0 e1 e2 e3
      have a0 := hat 0 (by decide)
      have a1 := hat 1 (by decide)
      have a2 := hat 2 (by decide)
      have a3 := hat 3 (by decide)
      rw [add_add] at a0 a1 a2 a3
      refine ⟨⟨x0, x1, x2, x3⟩, ?_, ?_, ?_, ?_, bounds_i64 b0, bounds_i64 b1, bounds_i64 b2⟩
      · rw [Nat.add_zero] at a0; rw [a0]; simp [e0]
      · rw [a1]; simp [e1]
      · rw [a2]; simp [e2]
      · rw [a3]; simp [e3]
    obtain ⟨F, hF⟩ : ∃ F : Nat → Chg, ∀ i, i < len → (F i).In W ad (i * 4) :=
      ⟨fun i => if h : i < len then (one i h).choose else ⟨0, 0, 0, ⟨#[]⟩⟩, fun i h => by simp only [dif_pos h]; exact (one i h).choose_spec⟩
    refine ⟨(List.range len).map F, by simp, ⟨some ad, cap, by simp, fun j hj => ⟨ad, rfl, ?_⟩⟩⟩
    have hj' : j < len := by simpa using hj
    simp only [List.getElem_map, List.getElem_range]
    exact hF j hj'
end
end Go.Proofs.YtfckhkpheahgaaaDoor
