/-
  PROVED HERE: contracts of the document's words and of Fault's Is; the document's map of forms. Conditions: as each theorem states.
-/
import Derived.Test.YtehmnohkfchljaaDoorExB
import Derived.Test.YtehmnohkfchljaaDoorExC
import Derived.Test.YtehmnohkfchljaaDoorExU
import Derived.Maps.OwnSet
import Derived.Maps.StringElems
import Derived.Maps.Views
namespace Go.Proofs.YtehmnohkfchljaaDoor.Ex
open Go.RowKit Go.Maps
theorem is_any (e p : Int) (W : World) : Calls Tryd.prog 12 #[.agg #[.int .i64 e, .int .i64 p]] W fun x w' => x = .returned (.bool (e == 0)) ∧ Below W.heap.size W w' := by
  go_enter Tryd.func12, Tryd.ntmps12
  go_wp2_with fail
  go_ret
  exact ⟨rfl, (Below.refl _ _).alloc (Nat.le_refl _) _⟩
/-- What is not empty of the first k pieces. -/
def fl (L : List ByteArray) (k : Nat) : List ByteArray := (L.take k).filter fun w => decide (0 < w.size)
theorem fl_all (L : List ByteArray) : fl L L.length = L.filter fun w => decide (0 < w.size) := by unfold fl; rw [List.take_length]
theorem fl_len (L : List ByteArray) (k : Nat) : (fl L k).length ≤ k := by
  unfold fl
  exact Nat.le_trans (List.length_filter_le _ _) (by rw [List.length_take]; omega)
theorem filt_one (x : ByteArray) : [x].filter (fun w => decide (0 < w.size)) = if 0 < x.size then [x] else [] := by
  simp only [List.filter_cons, List.filter_nil, decide_eq_true_eq]
theorem fl_yes {L : List ByteArray} {k : Nat} (h : k < L.length) (hz : 0 < L[k].size) : fl L (k + 1) = fl L k ++ [L[k]] := by
  unfold fl
  rw [List.take_succ_eq_append_getElem h, List.filter_append, filt_one, if_pos hz]
theorem fl_no {L : List ByteArray} {k : Nat} (h : k < L.length) (hz : ¬ 0 < L[k].size) : fl L (k + 1) = fl L k := by
  unfold fl
  rw [List.take_succ_eq_append_getElem h, List.filter_append, filt_one, if_neg hz, List.append_nil]
theorem bytes_nil {s : ByteArray} (h : ¬ 0 < s.size) : s.toList = [] := by
  rw [ByteArray.toList_eq]
  exact List.eq_nil_of_length_eq_zero (by have : s.data.toList.length = s.size := rfl
                                          omega)
theorem bytes_some {s : ByteArray} (h : 0 < s.size) : s.toList ≠ [] := fun e => by
  rw [ByteArray.toList_eq] at e
  have : s.data.toList.length = s.size := rfl
  rw [e] at this
  simp at this
  omega
set_option maxRecDepth 100000 in
set_option maxHeartbeats 4000000 in
theorem docWords_any (s : ByteArray) (hs : s.size ≤ 200) (W : World) (m : Int) (hm : W.cell? ⟨1, 0, none⟩ = some (.int .i64 m)) :
    Calls Tryd.prog 9 #[.string s] W fun e w' => ∃ v, e = .returned v ∧ Own w' W.heap.size 9 v (strs (wd s)) ∧ Below W.heap.size W w' := by
  have SPL := Tryd.strings_Split s bl m W (by omega) hm (Nat.le_refl _)
  have hlen : Lib.countB s bl + 1 = (PW s).length := (Spl.PS_len 32 s).symm
  rw [hlen] at SPL
  change Calls _ _ _ _ fun e w' => _ ∧ w' = World.alloc _ (.cells ((PW s).map Value.string).toArray _) at SPL
  have hmany : (PW s).length ≤ s.size + 1 := (split_tot 32 _ s rfl).1
  have hwd : wd s = fl (PW s) (PW s).length := (fl_all _).symm
  rw [hwd]
  generalize PW s = L at *
  have hLb : L.length ≤ 201 := by omega
  have HSPL := Lib.hid SPL
  have HB0 : Hid (Below W.heap.size W (W.alloc (.cells (L.map Value.string).toArray 9))) := Lib.hid ((Below.refl _ _).alloc (Nat.le_refl _) _)
  have HC0 : Hid (∀ j (h : j < L.length), (W.alloc (.cells (L.map Value.string).toArray 9)).cell? ⟨W.heap.size, j, none⟩ = some (.string L[j])) := Lib.hid (fun j hj => by
    rw [World.cell?_alloc_at _ _ _ _ rfl]
    simp [hj])
  have HZ0 : Hid ((W.alloc (.cells (L.map Value.string).toArray 9)).heap.size = W.heap.size + 1) := Lib.hid (by rw [World.size_alloc])
  clear SPL hlen hmany hwd hm
  go_enter Tryd.func9, Tryd.ntmps9
  go_wp2_with fail
  refine HSPL.out.mono ?_; rintro e w2 ⟨rfl, rfl⟩
  clear HSPL
  generalize W.alloc (.cells (L.map Value.string).toArray 9) = w2 at *
  go_wp2_with fail
  go_loopw [3, 9] (fun v i wr => ∃ k : Nat, k ≤ L.length ∧ i = .int .i64 (k : Int) ∧ (∃ a cap, v = .slice a (fl L k).length cap) ∧ Hid (Own wr (W.heap.size + 1) 9 v (strs (fl L k))) ∧ Hid (Below w2.heap.size w2 wr)) (fun _ i _ => L.length - (intOf i).toNat)
  case atStart => exact ⟨0, Nat.zero_le _, rfl, ⟨_, _, rfl⟩, Lib.hid (own_nil _ _ _), Lib.hid (Below.refl _ _)⟩
  case round =>
    obtain ⟨k, hk, rfl, ⟨a, cap, rfl⟩, hO, hB⟩ := hrel
    by_cases hlt : k < L.length
    · have hc := keepCell hB.out (HC0.out k hlt)
      have i1 : (0 : Int) ≤ (k : Int) := by omega
      have i2 : (k : Int) < (L.length : Int) := by omega
      have hfl := fl_len L k
      by_cases hz : 0 < L[k].size
      · have hy := Lib.hid (fl_yes hlt hz)
        have e1 : (L[k].toList != []) = true := by rw [bne_iff_ne]; exact bytes_some hz
        have e2 : L[k].toList.isEmpty = false := str_full _ hz
        generalize L[k] = x at *
        have HA := Lib.hid (hO.out.alloc (.cells #[.string x] 9))
        have L1 : Hid ((strs (fl L k)).length + 1 ≤ 1000000000000) := Lib.hid (by rw [strs_len]; omega)
        have L2 : Hid (((strs (fl L k)).length + 1) * 16 ≤ 1000000000000) := Lib.hid (by rw [strs_len]; omega)
        have L3 : Hid (W.heap.size + 1 ≤ (wr.alloc (.cells #[.string x] 9)).heap.size) := Lib.hid (by rw [World.size_alloc]; have := hB.out.size; have := HZ0.out; omega)
        clear hz
        go_wp2_with (at_builtin; refine own_append1 rfl _ _ 23 rfl (W.heap.size + 1) 9 (.string ⟨#[]⟩) 16 Tryd.underlying23 infoStr rfl _ _ rfl HA.out wr.heap.size 1 (.string x) rfl (new_cell _ _ _) rfl L2.out L1.out L3.out ?_; intro v' w5 ho hg hb5 hor)
        have hL5 : ∃ a cap, v' = .slice a (fl L (k + 1)).length cap := by
          obtain ⟨x', c', hv'⟩ := ho.len
          refine ⟨x', c', ?_⟩
          rw [hv', strs_snoc, strs_len, hy.out]
        have HO5 : Hid (Own w5 (W.heap.size + 1) 9 v' (strs (fl L (k + 1)))) := Lib.hid (by rw [hy.out, ← strs_snoc]; exact ho)
        have HB5 : Hid (Below w2.heap.size w2 w5) := Lib.hid ((hB.out.alloc hB.out.size _).trans (hb5.mono (Nat.le_of_eq HZ0.out)))
        clear ho hg hb5 hor
        go_wp2_with fail
        go_roundw
        case rel => exact ⟨k + 1, by omega, by go_num, hL5, HO5, HB5⟩
        case measure => simp [intOf]; omega
      · have hy := Lib.hid (fl_no hlt hz)
        have e0 := bytes_nil hz
        have e1 : (L[k].toList != []) = false := by rw [e0]; rfl
        have e2 : L[k].toList.isEmpty = true := by rw [e0]; rfl
        generalize L[k] = x at *
        clear hz e0
        go_wp2_with fail
        go_roundw
        case rel => exact ⟨k + 1, by omega, by go_num, by rw [hy.out]; exact ⟨_, _, rfl⟩, by rw [hy.out]; exact hO, hB⟩
        case measure => simp [intOf]; omega
    · obtain rfl : k = L.length := by omega
      go_wp2_with fail
      go_ret
      exact ⟨_, rfl, hO.out.base (Nat.le_succ _), HB0.out.trans (hB.out.mono (by have := HZ0.out; omega))⟩
end Go.Proofs.YtehmnohkfchljaaDoor.Ex
