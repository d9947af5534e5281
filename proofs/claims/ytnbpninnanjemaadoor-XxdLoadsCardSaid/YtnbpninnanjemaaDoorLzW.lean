/-
  PROVED HERE: the contract of lz.Unpack. Conditions: as each theorem states.
-/
import Derived.Test.YtnbpninnanjemaaDoorLzV
import Derived.Test.YtnbpninnanjemaaDoorBit
import Derived.Lib.AppendStr
namespace Go.Proofs.YtnbpninnanjemaaDoor.Lz
open Go.RowKit
/-- No error, or the bare error of number c. -/
def NErr (u : Value) (c : Nat) : Prop := (u = .nilIface ∧ c = 0) ∨ (u = .iface 22 (.int .i64 (c : Int)) ∧ c ≠ 0)
def UpP (r : Nat × ByteArray) (w : World) (e : Ending) (w' : World) : Prop := ∃ v, e = .returned (.tuple #[.string r.2, v]) ∧ NErr v r.1 ∧ Below w.heap.size w w'
theorem infoU8 : (Tryd.prog.info? 5).map (fun i => (i.zero, i.size, i.bytes)) = some (some (.int .u8 0), 1, 1) := by kernel_rfl
theorem own_lenB {w : World} {B E : Nat} {v : Value} {o : ByteArray} (h : Own w B E v (u8s o.data.toList)) : ∃ a c, v = .slice a o.size c := by
  obtain ⟨a, c, e⟩ := h.len
  exact ⟨a, c, by rw [e, u8s_len]; rfl⟩
/-- append of a string's bytes. -/
theorem own_appendStr {w : World} {ops : Array Oper} {rest : List Oper} {o : Oper} {a : Act} {Q : Exit → Act → World → Prop} (hgd : o.guard = none) (sl x : Operand)
    (ho : o.op = .call { callee := .builtin .append, args := #[sl, x], argTypes := #[41, 9] })
    (B : Nat) (v : Value) (z : ByteArray) (hs : a.eval sl = v) (hown : Own w B 5 v (u8s z.data.toList)) (s : ByteArray) (hx : a.eval x = .string s)
    (hlen : z.size + s.size ≤ 1000000000) (hbase : B ≤ w.heap.size)
    (h : ∀ v' w', Own w' B 5 v' (u8s (z ++ s).data.toList) → w.grownBy w' v.ownBlock → Below B w w' → wpList Tryd.prog ops Q rest (a.put o.dst v') w') : wpList Tryd.prog ops Q (o :: rest) a w := by
  obtain ⟨i, hi, hz0, hz1, hz2⟩ := info_parts infoU8
  have hzl : (u8s z.data.toList).length = z.size := by rw [u8s_len]; rfl
  refine Go.Lib.wpList_append_own_string w hgd sl x 41 9 ho B 5 i Tryd.underlying41 Tryd.underlying9 hi hz0 hz1 hz2 v (u8s z.data.toList).length (u8s z.data.toList) hs hown s hx (by unfold maxLen; omega) (by omega) hbase ?_
  intro v' w' h2 h3 _
  refine h v' w' ?_ h3 ((Below.refl B w).grown h3 hbase (fun k hk => (World.ownsRow.lt hown k hk).1))
  have e : u8s (z ++ s).data.toList = u8s z.data.toList ++ Go.Lib.strCells s := by rw [lst_app]; simp [u8s, Go.Lib.strCells]
  unfold Own
  rw [e, List.length_append, Go.Lib.strCells_length]
  exact h2
theorem or_bytes (x y : Nat) (hx : x < 256) (hy : y < 256) : bits .or .i64 ((x : Int) * 256) (y : Int) = ((x * 256 + y : Nat) : Int) := by
  have := i64_join 8 (x * 256) y (by omega) (by omega) (by omega) (by omega)
  rw [← this]
  congr 1
set_option maxRecDepth 100000 in
set_option maxHeartbeats 4000000 in
theorem unpack_any (p : ByteArray) (W : World) (hp : p.size ≤ 300) : Calls Tryd.prog 8 #[.string p] W (UpP (up p 0 ⟨#[]⟩) W) := by
  have hZ : Hid (up p 0 ⟨#[]⟩ = up p 0 ⟨#[]⟩) := Lib.hid rfl
  generalize hR : up p 0 ⟨#[]⟩ = R at hZ ⊢
  have HR := Lib.hid hR
  have HO := Lib.hid (own_nil W W.heap.size 5)
  clear hR hZ
  go_enter Tryd.func8, Tryd.ntmps8
  go_wp2_with fail
  go_loopw [4, 5] (fun b a wr => ∃ (i : Nat) (o : ByteArray), i ≤ p.size ∧ a = .int .i64 (i : Int) ∧ (∃ x c, b = .slice x o.size c) ∧ o.size ≤ 4000 ∧ Hid (Own wr W.heap.size 5 b (u8s o.data.toList)) ∧ Hid (up p i o = R) ∧ Hid (Below W.heap.size W wr)) (fun _ a _ => p.size - (intOf a).toNat)
  case atStart => exact ⟨0, ⟨#[]⟩, Nat.zero_le _, rfl, ⟨_, _, rfl⟩, by decide, HO, HR, Lib.hid (Below.refl _ _)⟩
  case round =>
    obtain ⟨i, o, hi, rfl, ⟨a, cc, rfl⟩, ho, hO, hu, hB⟩ := hrel
    clear HR HO
    by_cases hlt : i < p.size
    · have i1 : (0 : Int) ≤ (i : Int) := by omega
      have i2 : (i : Int) < (p.size : Int) := by omega
      obtain ⟨c, hc⟩ : ∃ c : Nat, (p[i]'hlt).toNat = c := ⟨_, rfl⟩
      have hcp : (ub p i).toNat = c := by rw [← hc, ub_eq p i hlt]
      have hc2 : c < 256 := by rw [← hcp]; exact ub_lt _ _
      have HC := Lib.hid hcp
      clear hcp
      by_cases h1 : c < 128
      · have d1 : decide ((c : Int) + 1 ≤ 128) = true := decide_eq_true (by omega)
        by_cases h2 : p.size < i + c + 2
        · have d2 : decide ((p.size : Int) < (i : Int) + 1 + ((c : Int) + 1)) = true := decide_eq_true (by omega)
          have hRR : Hid (R = (3, ⟨#[]⟩)) := Lib.hid (by rw [← hu.out]; exact up_short hlt HC.out h1 h2 o)
          clear hu
          go_wp2_with fail
          go_ret2
          rw [hRR.out]
          exact ⟨_, rfl, .inr ⟨rfl, by decide⟩, hB.out⟩
        · have d2 : decide ((p.size : Int) < (i : Int) + 1 + ((c : Int) + 1)) = false := decide_eq_false (by omega)
          obtain ⟨z, hz⟩ : ∃ z, z = o ++ p.extract (i + 1) (i + 1 + (c + 1)) := ⟨_, rfl⟩
          have hzs : z.size = o.size + (c + 1) := by rw [hz, ByteArray.size_append, ByteArray.size_extract]; omega
          have HZ := Lib.hid hz
          have HZ2 := Lib.hid (show o ++ p.extract (i + 1) (i + c + 2) = z by rw [hz, show i + c + 2 = i + 1 + (c + 1) by omega])
          have hl : o.size + (p.extract (i + 1) (i + 1 + (c + 1))).size ≤ 1000000000 := by rw [ByteArray.size_extract]; omega
          have HL := Lib.hid hl
          have HZS := Lib.hid hzs
          have hz5 : z.size ≤ 5000 := by omega
          clear hz hzs hl
          go_wp2_with (at_builtin; refine own_appendStr rfl _ _ rfl W.heap.size _ o rfl hO.out (p.extract (i + 1) (i + 1 + (c + 1))) rfl HL.out hB.out.size ?_; intro v' w' ho' hg' hb'; rw [← HZ.out] at ho'; obtain ⟨x', c', rfl⟩ := own_lenB ho'; have hO2 := Lib.hid ho'; have hB2 := Lib.hid (hB.out.trans hb'); clear ho' hg' hb' hB hO)
          · have h4 : 4000 < (z.size : Int) := by assumption
            have hRR : Hid (R = (4, ⟨#[]⟩)) := Lib.hid (by rw [← hu.out]; exact up_full hlt HC.out h1 (by omega) o (by rw [HZ2.out]; omega))
            go_ret2
            rw [hRR.out]
            exact ⟨_, rfl, .inr ⟨rfl, by decide⟩, hB2.out⟩
          · have h4 : (z.size : Int) ≤ 4000 := by assumption
            have hu2 := Lib.hid ((up_lit hlt HC.out h1 (by omega) o (by rw [HZ2.out]; omega)).symm.trans hu.out)
            rw [HZ2.out] at hu2
            have hi2 : i + c + 2 ≤ p.size := by omega
            go_roundw
            case rel => exact ⟨i + c + 2, z, hi2, by go_num, ⟨_, _, rfl⟩, by omega, hO2, hu2, hB2⟩
            case measure => simp [intOf]; omega
      · have d1 : decide ((c : Int) + 1 ≤ 128) = false := decide_eq_false (by omega)
        by_cases h2 : p.size < i + 3
        · have d2 : decide ((p.size : Int) < (i : Int) + 3) = true := decide_eq_true (by omega)
          have hRR : Hid (R = (3, ⟨#[]⟩)) := Lib.hid (by rw [← hu.out]; exact up_short2 hlt HC.out (by omega) h2 o)
          clear hu
          go_wp2_with fail
          go_ret2
          rw [hRR.out]
          exact ⟨_, rfl, .inr ⟨rfl, by decide⟩, hB.out⟩
        · have d2 : decide ((p.size : Int) < (i : Int) + 3) = false := decide_eq_false (by omega)
          have b1 : i + 1 < p.size := by omega
          have b2 : i + 2 < p.size := by omega
          obtain ⟨x, hx⟩ : ∃ x : Nat, (p[i + 1]'b1).toNat = x := ⟨_, rfl⟩
          obtain ⟨y, hy⟩ : ∃ y : Nat, (p[i + 2]'b2).toNat = y := ⟨_, rfl⟩
          have hxp : (ub p (i + 1)).toNat = x := by rw [← hx, ub_eq p (i + 1) b1]
          have hyp : (ub p (i + 2)).toNat = y := by rw [← hy, ub_eq p (i + 2) b2]
          have hx2 : x < 256 := by rw [← hxp]; exact ub_lt _ _
          have hy2 : y < 256 := by rw [← hyp]; exact ub_lt _ _
          obtain ⟨b, hb⟩ : ∃ b : Nat, x * 256 + y = b := ⟨_, rfl⟩
          have HB2 := Lib.hid (show (ub p (i + 1)).toNat * 256 + (ub p (i + 2)).toNat = b by rw [hxp, hyp, hb])
          have hb9 : b < 65536 := by omega
          have ob := or_bytes x y hx2 hy2
          rw [hb] at ob
          obtain ⟨n, hn⟩ : ∃ n, n = c - 125 := ⟨_, rfl⟩
          have hn2 : n ≤ 130 := by omega
          have hn3 : (c : Int) + 1 + -126 = (n : Int) := by omega
          have HNn := Lib.hid hn
          have s1 : IntKind.i64.wrap ((i : Int) + 1) = (i : Int) + 1 := IntWalk.i64_in _ (by omega)
          have s2 : IntKind.i64.wrap ((i : Int) + 2) = (i : Int) + 2 := IntWalk.i64_in _ (by omega)
          have s3 : IntKind.i64.wrap ((x : Int) * 256) = (x : Int) * 256 := IntWalk.i64_in _ (by omega)
          have t1 : ((i : Int) + 1).toNat = i + 1 := by omega
          have t2 : ((i : Int) + 2).toNat = i + 2 := by omega
          have t3 : (0 : Int) ≤ (i : Int) + 1 := by omega
          have t4 : (0 : Int) ≤ (i : Int) + 2 := by omega
          have t5 : (i : Int) + 1 < (p.size : Int) := by omega
          have t6 : (i : Int) + 2 < (p.size : Int) := by omega
          clear hxp hyp hn
          go_wp2_with fail
          clear hb
          go_quiet (fail)
          clear ob s1 s2 s3 t1 t2 t3 t4 t5 t6 hx hy hx2 hy2 hn3
          have hB2 := Lib.hid (below_drewN hB.out nq)
          have hO2 := Lib.hid (hO.out.drewN nq)
          generalize wr.drewN nq = w9 at *
          clear hB hO
          by_cases h3 : b = 0 ∨ 1023 < b ∨ o.size < b
          · have hRR : Hid (R = (3, ⟨#[]⟩)) := Lib.hid (by rw [← hu.out]; exact up_none hlt HC.out (by omega) (by omega) HB2.out o h3)
            clear hu
            by_cases q1 : b = 0
            · subst q1
              go_wp2_with fail
              go_ret2
              rw [hRR.out]
              exact ⟨_, rfl, .inr ⟨rfl, by decide⟩, hB2.out⟩
            have e1 : ((b : Int) == 0) = false := by rw [beq_eq_false_iff_ne]; omega
            by_cases q2 : 1023 < b
            · have e2 : decide ((1023 : Int) < (b : Int)) = true := decide_eq_true (by omega)
              go_wp2_with fail
              go_ret2
              rw [hRR.out]
              exact ⟨_, rfl, .inr ⟨rfl, by decide⟩, hB2.out⟩
            · have e2 : decide ((1023 : Int) < (b : Int)) = false := decide_eq_false (by omega)
              have e3 : decide (o.size < b) = true := decide_eq_true (by omega)
              have e4 : o.size < b := by omega
              go_wp2_with fail
              go_ret2
              rw [hRR.out]
              exact ⟨_, rfl, .inr ⟨rfl, by decide⟩, hB2.out⟩
          · have e1 : ((b : Int) == 0) = false := by rw [beq_eq_false_iff_ne]; omega
            have e2 : decide ((1023 : Int) < (b : Int)) = false := decide_eq_false (by omega)
            have e3 : decide (o.size < b) = false := decide_eq_false (by omega)
            have e4 : b ≤ o.size := by omega
            have hb1 : 0 < b := by omega
            have hb3 : b ≤ 1023 := by omega
            have H3 := Lib.hid h3
            clear h3
            go_wp2_with fail
            go_loopw [4, 75] (fun u t wr => ∃ (k : Nat) (z : ByteArray), k ≤ n ∧ t = .int .i64 (k : Int) ∧ (∃ x c, u = .slice x z.size c) ∧ Hid (z.size = o.size + k) ∧ Hid (Own wr W.heap.size 5 u (u8s z.data.toList)) ∧ Hid (cp b (n - k) z = cp b n o) ∧ Hid (Below W.heap.size W wr)) (fun _ t _ => n - (intOf t).toNat)
            case atStart => exact ⟨0, o, Nat.zero_le _, rfl, ⟨_, _, rfl⟩, Lib.hid rfl, hO2, Lib.hid rfl, hB2⟩
            case round =>
              obtain ⟨k, z, hk, rfl, ⟨x2, c2, rfl⟩, hzs, hO3, hZ, hB3⟩ := hrel
              have hz1 : z.size ≤ 4200 := by have := hzs.out; omega
              have hz0 : b ≤ z.size := by have := hzs.out; omega
              by_cases hkn : k < n
              · obtain ⟨j, hj⟩ : ∃ j, j = z.size - b := ⟨_, rfl⟩
                have hjl : j < z.size := by omega
                have hjl2 : j < (u8s z.data.toList).length := by rw [u8s_len]; exact hjl
                obtain ⟨g, rfl, hcell0⟩ := hO3.out.at_ j hjl2
                have hcell : wr.cell? ⟨g, j, none⟩ = some (.int .u8 ((ub z j).toNat : Int)) := by
                  rw [hcell0, u8s_get, List.getD_eq_getElem?_getD, Array.getElem?_toList]
                  rfl
                have ez : (z.size : Int) - (b : Int) = (j : Int) := by omega
                have j1 : (0 : Int) ≤ (j : Int) := by omega
                have j2 : (j : Int) < (z.size : Int) := by omega
                have k1 : (0 : Int) ≤ (k : Int) := by omega
                have k2 : (k : Int) < (n : Int) := by omega
                have HU : Hid (u8s z.data.toList ++ [.int .u8 ((ub z j).toNat : Int)] = u8s (z ++ z.extract j (j + 1)).data.toList) := Lib.hid (by
                  rw [lst_app, lst_one z j hjl]; simp [u8s])
                obtain ⟨zz, hzz⟩ : ∃ zz, zz = z ++ z.extract j (j + 1) := ⟨_, rfl⟩
                have hzzs : Hid (zz.size = o.size + (k + 1)) := Lib.hid (by
                  have := hzs.out
                  rw [hzz, ByteArray.size_append, ByteArray.size_extract]; omega)
                have hZ2 : Hid (cp b (n - (k + 1)) zz = cp b n o) := Lib.hid (by
                  rw [← hZ.out, hzz, hj]
                  conv => rhs; rw [show n - k = (n - (k + 1)) + 1 by omega, cp])
                rw [← hzz] at HU
                have hul : (u8s z.data.toList).length = z.size := by rw [u8s_len]; rfl
                have HW1 := Lib.hid (show ((u8s z.data.toList).length + 1) * 1 ≤ 1000000000000 ∧ (u8s z.data.toList).length + 1 ≤ 1000000000000 ∧ (u8s z.data.toList).length = z.size by omega)
                clear hcell0 hzz hj hzs hZ hul hjl2
                go_wp2_with (at_builtin; refine own_append1 rfl _ _ 41 rfl W.heap.size 5 (.int .u8 0) 1 Tryd.underlying41 infoU8 rfl _ _ rfl (by have q := hO3.out.alloc (.cells #[.int .u8 ((ub z j).toNat : Int)] 5); exact q) wr.heap.size 1 (.int .u8 ((ub z j).toNat : Int)) rfl (new_cell _ _ _) rfl HW1.out.1 HW1.out.2.1 (le_alloc hB3.out.size _) ?_; intro v' w' ho' hg' hb' hat'; rw [HU.out] at ho'; obtain ⟨x', c', rfl⟩ := own_lenB ho'; have hO4 := Lib.hid ho'; have hB4 := Lib.hid (below_append hB3.out _ hB3.out.size hb'); clear ho' hg' hb' hat' hB3 hO3)
                go_roundw
                case rel => exact ⟨k + 1, zz, by omega, by go_num, ⟨_, _, rfl⟩, hzzs, hO4, hZ2, hB4⟩
                case measure => simp [intOf]; omega
              · obtain rfl : k = n := by omega
                have hze : z = cp b k o := by have := hZ.out; rwa [Nat.sub_self] at this
                have hzH := Lib.hid hze
                clear hze
                go_wp2_with fail
                · have h4 : 4000 < (z.size : Int) := by assumption
                  have hRR : Hid (R = (4, ⟨#[]⟩)) := Lib.hid (by rw [← hu.out]; exact up_full2 hlt HC.out (by omega) (by omega) HB2.out o H3.out (by rw [← HNn.out, ← hzH.out]; omega))
                  go_ret2
                  rw [hRR.out]
                  exact ⟨_, rfl, .inr ⟨rfl, by decide⟩, hB3.out⟩
                · have h4 : (z.size : Int) ≤ 4000 := by assumption
                  have hu2 := Lib.hid ((up_back hlt HC.out (by omega) (by omega) HB2.out o H3.out (by rw [← HNn.out, ← hzH.out]; omega)).symm.trans hu.out)
                  have hu3 : Hid (up p (i + 3) z = R) := Lib.hid (by rw [← hu2.out, ← HNn.out, ← hzH.out])
                  have hi3 : i + 3 ≤ p.size := by omega
                  go_roundw
                  case rel => exact ⟨i + 3, z, hi3, by go_num, ⟨_, _, rfl⟩, by omega, hO3, hu3, hB3⟩
                  case measure => simp [intOf]; omega
    · have hRR : Hid (R = (0, o)) := Lib.hid (by rw [← hu.out]; exact up_end (by omega) o)
      have hcv : ∀ W', W' = wr → (convert 41 9 (.slice a o.size cc)).run Tryd.prog W' = .ok (.string o) W' := fun W' hW => by
        subst hW
        exact own_string hO.out Tryd.underlying41 Tryd.underlying5 Tryd.underlying9
      have hcv2 := hcv wr rfl
      have kd : decide ((i : Int) < (p.size : Int)) = false := decide_eq_false (by omega)
      clear hu hcv
      go_wp2_with fail
      go_ret2
      rw [hRR.out]
      exact ⟨_, rfl, .inl ⟨rfl, rfl⟩, hB.out⟩
end Go.Proofs.YtnbpninnanjemaaDoor.Lz
