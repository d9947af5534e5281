/-
  PROVED HERE: append(s, make([]T, k)...) onto a slice of the call's own, elements of one cell, over any program. Conditions: as each theorem states.
-/
import Derived.Test.YtifnochpmlllgaaDoorOwn
import Derived.Lib.AppendZeros
import Derived.Lib.AppendZerosOnto
namespace Go.Proofs.YtifnochpmlllgaaDoor
open Go.RowKit
theorem zeroCells_one (z : Value) (n : Nat) : Builtin.zeroCells #[z] n = (List.replicate n z).toArray := by
  apply Array.ext
  · simp [Builtin.zeroCells]
  · intro i h1 h2
    simp [Builtin.zeroCells, Nat.mod_one]
section
variable {P : Program} (w : World)
theorem run_append_room_zeros (t tn ty e : TypeId) (i : TypeInfo) (z : Value) (kq kn : IntKind) (ht : P.underlying t = some (.slice e)) (htn : P.underlying tn = some (.int kn)) (hi : P.info? e = some i) (hz : i.zero = some z) (hzc : z.cells = #[z]) (hone : z.oneCell' = true)
    (hsz : i.size = 1) (g sLen sCap : Nat) (cur : Array Value) (hg : w.heap[g]? = some (.cells cur e (0, 0)))
    (k : Nat) (h0 : 0 < k) (hroom : sLen + k ≤ sCap) (hfit : sLen + k ≤ cur.size) (hb : k * i.bytes ≤ 281474976710656) (hk63 : k ≤ 9223372036854775807) :
    (Builtin.append_ #[t, tn] ty #[.slice (some ⟨g, 0, none⟩) sLen sCap, .int kq k]).run P w =
      .ok (.slice (some ⟨g, 0, none⟩) (sLen + k) sCap) (w.setRow g (cur.toList.take sLen ++ List.replicate k z ++ cur.toList.drop (sLen + k)).toArray) := by
  have hst := run_storeCells_at P g sLen e (List.replicate k z) 0 cur w hg (by simpa using hfit) (by intro v hv; rw [List.eq_of_mem_replicate hv]; exact hone)
  simp only [Nat.add_zero, List.length_replicate] at hst
  have hw : IntKind.i64.wrap (k : Int) = k := by rw [IntKind.wrap_i64]; omega
  have hneg : ¬ ((k : Int) < 0) := by omega
  have hkk : k ≠ 0 := by omega
  have h48i : ¬ (281474976710656 < (k : Int) * (i.bytes : Int)) := by
    rw [← Int.natCast_mul]
    omega
  simp [Builtin.append_, run_underlying ht, run_underlying htn, sizeOf, typeInfo, zeroValue, hi, hz, hsz, asInt, asIntOf, hw, hneg, hkk, h48i, hroom, Addr.add_lit, hzc, zeroCells_one, hst]
theorem run_append_own_zeros (B : Nat) (t tn ty E : TypeId) (z : Value) (bytes : Nat) (kq kn : IntKind) (ht : P.underlying t = some (.slice E)) (htn : P.underlying tn = some (.int kn)) (hinfo : (P.info? E).map (fun i => (i.zero, i.size, i.bytes)) = some (some z, 1, bytes)) (hzc : z.cells = #[z]) (hone : z.oneCell' = true)
    (v : Value) (xs : List Value) (hown : Own w B E v xs) (k : Nat) (h0 : 0 < k) (hlen : (xs.length + k) * bytes ≤ 1000000000000) (hlen2 : xs.length + k ≤ 1000000000000) (hbase : B ≤ w.heap.size) :
    ∃ v' w', (Builtin.append_ #[t, tn] ty #[v, .int kq k]).run P w = .ok v' w' ∧ Own w' B E v' (xs ++ List.replicate k z) ∧ w.grownBy w' v.ownBlock ∧ Below B w w' ∧ (v'.ownBlock = v.ownBlock ∨ v'.ownBlock = some w.heap.size) := by
  obtain ⟨i, hi, hz0, hz1, hz2⟩ := info_parts hinfo
  have hkb : k * i.bytes ≤ 281474976710656 := by
    rw [hz2]
    have : k * bytes ≤ (xs.length + k) * bytes := Nat.mul_le_mul_right _ (by omega)
    omega
  have hold := hown
  rcases hown.2 with ⟨rfl, hx0⟩ | ⟨g, cap, cur, rfl, hbg, hg, hnc, hcm, hcs, htake⟩
  · obtain rfl : xs = [] := List.eq_nil_of_length_eq_zero hx0
    have hr := Lib.run_append_nil_zeros (P := P) w t tn ty E i z kq kn ht htn hi hz0 k h0 (by omega) (by omega) hkb
    have hge := grownCap_ge w k 0 E
    have hcm : grownCap w k 0 E ≤ maxLen := grownCap_le_maxLen w k 0 E (by unfold maxLen; simp at hlen2; omega)
    rw [hzc, zeroCells_one, zeroCells_one] at hr
    refine ⟨_, _, hr, ⟨by simp, .inr ⟨w.heap.size, _, _, by simp, hbase, heap_alloc_new w.drew _, by simpa using hge, hcm, ?_, ?_⟩⟩, ⟨rfl, rfl, rfl, by simp, fun q hq _ => heap_alloc_old w.drew _ hq⟩, (Below.refl B w).drew.alloc hbase _, .inr rfl⟩
    · simp; omega
    · simp
  · rw [Nat.mul_one] at hcs htake
    by_cases hroom : xs.length + k ≤ cap
    · have hr := run_append_room_zeros (P := P) w t tn ty E i z kq kn ht htn hi hz0 hzc hone hz1 g xs.length cap cur hg k h0 hroom (by omega) hkb (by omega)
      refine ⟨_, _, hr, ⟨by simp, .inr ⟨g, cap, _, by simp, hbg, setRow_heap w g cur _ E _ hg, by simpa using hroom, hcm, ?_, ?_⟩⟩, ⟨rfl, rfl, rfl, by simp, fun q _ hq => setRow_other w g q _ (fun e => hq (by simp [Value.ownBlock, e]))⟩, ?_, .inl rfl⟩
      · simp; omega
      · rw [htake, Nat.mul_one]
        exact List.take_append_of_le_length (by simp) |>.trans (List.take_of_length_le (by simp))
      · exact (Below.refl B w).grown (row := some g) ⟨rfl, rfl, rfl, by simp, fun q _ hq => setRow_other w g q _ (fun e => hq (by rw [e]))⟩ hbase (fun q hq => by injection hq with hq; omega)
    · have hfc : (Builtin.firstCells i.size xs.length (.slice (some ⟨g, 0, none⟩) xs.length cap)).run P w.drew = .ok xs.toArray w.drew := by
        refine run_firstCells_some (P := P) w.drew i.size xs.length ⟨g, 0, none⟩ xs.length cap xs (by rw [hz1, Nat.mul_one]) ?_
        intro j u hj
        obtain ⟨hj1, hj2⟩ := List.getElem?_eq_some_iff.1 hj
        rcases hold.form with ⟨he, _⟩ | ⟨g', cap', he, _, _, hc, _⟩
        · simp at he
        · simp only [Value.slice.injEq, Option.some.injEq, Addr.mk.injEq] at he
          obtain ⟨⟨rfl, _⟩, _⟩ := he
          rw [Addr.add_mid, Nat.zero_add]
          exact (hc j hj1).trans (by rw [hj2])
      have hgf := growslice_fits (old := cap) (need := xs.length + k) (bytes := i.bytes) (by omega) (by rw [hz2]; omega)
      have hr := Lib.run_append_grow_zeros (P := P) w t tn ty E i z kq kn ht htn hi hz0 (some ⟨g, 0, none⟩) xs.length cap xs hfc k h0 (by omega) (by omega) (by omega) hkb hgf
      have hge := grownCap_ge w (xs.length + k) cap E
      have hcm : grownCap w (xs.length + k) cap E ≤ maxLen := grownCap_le_maxLen w (xs.length + k) cap E (by unfold maxLen; omega)
      rw [hzc, zeroCells_one, zeroCells_one] at hr
      refine ⟨_, _, hr, ⟨by simp, .inr ⟨w.heap.size, _, _, by simp, hbase, heap_alloc_new w.drew _, by simpa using hge, hcm, ?_, ?_⟩⟩, ⟨rfl, rfl, rfl, by simp, fun q hq _ => heap_alloc_old w.drew _ hq⟩, (Below.refl B w).drew.alloc hbase _, .inr rfl⟩
      · simp; omega
      · rw [Nat.mul_one, Array.toList_append, Array.toList_append]
        exact List.take_append_of_le_length (by simp) |>.trans (List.take_of_length_le (by simp))
theorem own_append_zeros {w : World} {ops : Array Oper} {rest : List Oper} {o : Oper} {a : Act} {Q : Exit → Act → World → Prop} (hgd : o.guard = none) (s x : Operand) (t tn : TypeId)
    (ho : o.op = .call { callee := .builtin .append, args := #[s, x], argTypes := #[t, tn] })
    (B E : Nat) (z : Value) (bytes : Nat) (kq kn : IntKind) (ht : P.underlying t = some (.slice E)) (htn : P.underlying tn = some (.int kn)) (hinfo : (P.info? E).map (fun i => (i.zero, i.size, i.bytes)) = some (some z, 1, bytes)) (hzc : z.cells = #[z]) (hone : z.oneCell' = true)
    (v : Value) (xs : List Value) (hs : a.eval s = v) (hown : Own w B E v xs) (k : Nat) (hx : a.eval x = .int kq k) (h0 : 0 < k) (hlen : (xs.length + k) * bytes ≤ 1000000000000) (hlen2 : xs.length + k ≤ 1000000000000) (hbase : B ≤ w.heap.size)
    (h : ∀ v' w', Own w' B E v' (xs ++ List.replicate k z) → w.grownBy w' v.ownBlock → Below B w w' → (v'.ownBlock = v.ownBlock ∨ v'.ownBlock = some w.heap.size) → wpList P ops Q rest (a.put o.dst v') w') : wpList P ops Q (o :: rest) a w := by
  obtain ⟨v', w', hr, h1, h2, h3, h4⟩ := run_append_own_zeros (P := P) w B t tn o.type E z bytes kq kn ht htn hinfo hzc hone v xs hown k h0 hlen hlen2 hbase
  exact Lib.wpList_append_run w hgd s x t tn ho v _ hs hx v' w' hr (h v' w' h1 h2 h3 h4)
end
end Go.Proofs.YtifnochpmlllgaaDoor
