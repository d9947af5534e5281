/-
  PROVED HERE: the contracts of the document's alike and of LzPack's inner function. Conditions: as each theorem states.
-/
import Derived.Test.YtnbpninnanjemaaDoorLzU
import Derived.Test.YtnbpninnanjemaaDoorLzV
import Derived.Test.YtnbpninnanjemaaDoorTac
import Derived.Test.YtnbpninnanjemaaDoorChr
import Derived.Deep.LoopGhost
namespace Go.Proofs.YtnbpninnanjemaaDoor.Lz
open Go.RowKit
def AlP (m : Nat) (w : World) (e : Ending) (w' : World) : Prop := e = .returned (.int .i64 (m : Int)) ∧ ∃ n, w' = w.drewN n
set_option maxRecDepth 100000 in
set_option maxHeartbeats 2000000 in
theorem alike_any (s : ByteArray) (p q : Nat) (hpq : p ≤ q) (hq : q ≤ s.size) (hs : s.size ≤ 5000) (w : World) :
    Calls Tryd.prog 15 #[.string (s.extract p s.size), .string (s.extract q s.size)] w (AlP (al s p q) w) := by
  obtain ⟨a, ha⟩ : ∃ a, a = s.extract p s.size := ⟨_, rfl⟩
  obtain ⟨b, hb⟩ : ∃ b, b = s.extract q s.size := ⟨_, rfl⟩
  have hza : a.size = s.size - p := by rw [ha, ByteArray.size_extract]; omega
  have hzb : b.size = s.size - q := by rw [hb, ByteArray.size_extract]; omega
  rw [← ha, ← hb]
  have HA := Lib.hid (fun k (h : p + k < s.size) => (show ub a k = ub s (p + k) by rw [ha]; exact ub_ex s p k h))
  have HB := Lib.hid (fun k (h : q + k < s.size) => (show ub b k = ub s (q + k) by rw [hb]; exact ub_ex s q k h))
  have ZA := Lib.hid hza
  have ZB := Lib.hid hzb
  have hal : b.size ≤ a.size := by omega
  clear ha hb hza hzb
  go_enter Tryd.func15, Tryd.ntmps15
  go_wp2_with fail
  go_loopw [5] (fun i wr => ∃ k : Nat, k ≤ b.size ∧ i = .int .i64 (k : Int) ∧ Hid (∀ j, j < k → ub s (p + j) = ub s (q + j)) ∧ Hid (∃ n, wr = w.drewN n)) (fun i _ => b.size - (intOf i).toNat)
  case atStart => exact ⟨0, Nat.zero_le _, rfl, Lib.hid (fun j h => absurd h (Nat.not_lt_zero j)), Lib.hid ⟨0, rfl⟩⟩
  case round =>
    obtain ⟨k, hk, rfl, hE, hW⟩ := hrel
    by_cases hlt : k < b.size
    · have d1 : decide (k < a.size) = true := decide_eq_true (by omega)
      have d2 : decide (k < b.size) = true := decide_eq_true hlt
      have d3 : decide ((k : Int) < (a.size : Int)) = true := decide_eq_true (by omega)
      have d4 : decide ((k : Int) < (b.size : Int)) = true := decide_eq_true (by omega)
      have k1 : (0 : Int) ≤ (k : Int) := by omega
      have k2 : (k : Int) < (b.size : Int) := by omega
      have k3 : (k : Int) < (a.size : Int) := by omega
      have hka : k < a.size := by omega
      obtain ⟨x, hx⟩ : ∃ x : Nat, (a[k]'hka).toNat = x := ⟨_, rfl⟩
      obtain ⟨y, hy⟩ : ∃ y : Nat, (b[k]'hlt).toNat = y := ⟨_, rfl⟩
      have hqk : q + k < s.size := by have := ZB.out; omega
      have hx2 : (ub s (p + k)).toNat = x := by rw [← HA.out k (by omega), ← ub_eq a k hka, hx]
      have hy2 : (ub s (q + k)).toNat = y := by rw [← HB.out k hqk, ← ub_eq b k hlt, hy]
      by_cases hxy : x = y
      · have t1 : ((x : Int) == (y : Int)) = true := by rw [beq_iff_eq]; omega
        have hE2 : Hid (∀ j, j < k + 1 → ub s (p + j) = ub s (q + j)) := Lib.hid (fun j hj => by
          rcases Nat.lt_or_ge j k with c | c
          · exact hE.out j c
          · obtain rfl : j = k := by omega
            exact UInt8.toNat_inj.1 (by omega))
        clear hxy hx2 hy2 hE
        go_upto_region 2 with fail
        go_quiet (fail)
        all_goals
          go_wp2_with fail
          have hW2 : Hid (∃ n, wr.drewN nq = w.drewN n) := Lib.hid (by obtain ⟨n, hn⟩ := hW.out; exact ⟨_, by rw [hn, World.drewN_drewN]⟩)
          go_roundw
          case rel => exact ⟨k + 1, by omega, by go_num, hE2, hW2⟩
          case measure => simp [intOf]; omega
      · have t1 : ((x : Int) == (y : Int)) = false := by rw [beq_eq_false_iff_ne]; omega
        have hR : Hid (k = al s p q) := Lib.hid (al_eq (by omega) hE.out (fun _ h => hxy (by rw [← hx2, ← hy2, h]))).symm
        clear hxy hx2 hy2 hE
        go_upto_region 2 with fail
        go_quiet (fail)
        all_goals
          go_wp2_with fail
          go_ret
          exact ⟨ret_int (congrArg (fun n : Nat => (n : Int)) hR.out), by obtain ⟨n, hn⟩ := hW.out; exact ⟨_, by rw [hn, World.drewN_drewN]⟩⟩
    · have hR : Hid (k = al s p q) := Lib.hid (al_eq (by have := ZB.out; omega) hE.out (fun h => by have := ZB.out; omega)).symm
      have d2 : decide (k < b.size) = false := decide_eq_false hlt
      have d4 : decide ((k : Int) < (b.size : Int)) = false := decide_eq_false (by omega)
      by_cases hka : k < a.size
      · have d1 : decide (k < a.size) = true := decide_eq_true hka
        have d3 : decide ((k : Int) < (a.size : Int)) = true := decide_eq_true (by omega)
        clear hE
        go_upto_region 2 with fail
        go_quiet (fail)
        all_goals
          go_wp2_with fail
          go_ret
          exact ⟨ret_int (congrArg (fun n : Nat => (n : Int)) hR.out), by obtain ⟨n, hn⟩ := hW.out; exact ⟨_, by rw [hn, World.drewN_drewN]⟩⟩
      · have d1 : decide (k < a.size) = false := decide_eq_false hka
        have d3 : decide ((k : Int) < (a.size : Int)) = false := decide_eq_false (by omega)
        clear hE
        go_upto_region 2 with fail
        go_quiet (fail)
        all_goals
          go_wp2_with fail
          go_ret
          exact ⟨ret_int (congrArg (fun n : Nat => (n : Int)) hR.out), by obtain ⟨n, hn⟩ := hW.out; exact ⟨_, by rw [hn, World.drewN_drewN]⟩⟩
/-- The document's two texts in memory. -/
def DS (W : World) (H : Nat) (o p : ByteArray) (w : World) : Prop :=
  Below H W w ∧ H + 1 < w.heap.size ∧ w.cell? ⟨H, 0, none⟩ = some (.string o) ∧ w.cell? ⟨H + 1, 0, none⟩ = some (.string p) ∧ w.frozen? ⟨H, 0, none⟩ = false ∧ w.frozen? ⟨H + 1, 0, none⟩ = false
theorem DS.below {W w w' : World} {H : Nat} {o p : ByteArray} (h : DS W H o p w) (hb : Below w.heap.size w w') : DS W H o p w' := by
  obtain ⟨h1, h2, h3, h4, h5, h6⟩ := h
  exact ⟨h1.trans (hb.mono (by omega)), Nat.lt_of_lt_of_le h2 hb.size, keepCell hb h3, keepCell hb h4, keepFree hb h3 h5, keepFree hb h4 h6⟩
theorem DS.drew {W w : World} {H : Nat} {o p : ByteArray} (h : DS W H o p w) : DS W H o p w.drew := ⟨h.1.drew, h.2⟩
theorem DS.drewN {W w : World} {H : Nat} {o p : ByteArray} (h : DS W H o p w) (n : Nat) : DS W H o p (w.drewN n) := ⟨below_drewN h.1 n, h.2⟩
theorem DS.setO {W w : World} {H : Nat} {o p : ByteArray} (h : DS W H o p w) (o' : ByteArray) : DS W H o' p (w.setCell ⟨H, 0, none⟩ (.string o')) := by
  obtain ⟨h1, h2, h3, h4, h5, h6⟩ := h
  exact ⟨h1.setCell (p := ⟨H, 0, none⟩) (Nat.le_refl _) _, by simpa [World.setCell] using h2, World.cell?_setCell_same _ _ _ h3, (World.cell?_setCell_other _ _ _ _ (by intro hh; simp at hh)).trans h4, by rw [frozen?_setCell]; exact h5, by rw [frozen?_setCell]; exact h6⟩
theorem DS.setP {W w : World} {H : Nat} {o p : ByteArray} (h : DS W H o p w) (p' : ByteArray) : DS W H o p' (w.setCell ⟨H + 1, 0, none⟩ (.string p')) := by
  obtain ⟨h1, h2, h3, h4, h5, h6⟩ := h
  exact ⟨h1.setCell (p := ⟨H + 1, 0, none⟩) (Nat.le_succ _) _, by simpa [World.setCell] using h2, (World.cell?_setCell_other _ _ _ _ (by intro hh; simp at hh)).trans h3, World.cell?_setCell_same _ _ _ h4, by rw [frozen?_setCell]; exact h5, by rw [frozen?_setCell]; exact h6⟩
def bs (s : ByteArray) : List UInt8 := s.data.toList
theorem bs_len (s : ByteArray) : (bs s).length = s.size := rfl
theorem bs_app (a b : ByteArray) : bs (a ++ b) = bs a ++ bs b := lst_app a b
theorem bs_ex (s : ByteArray) (a b : Nat) : bs (s.extract a b) = ((bs s).drop a).take (b - a) := by
  unfold bs
  rw [ByteArray.data_extract, Array.toList_extract, List.extract_eq_take_drop]
theorem bs_lit (l : List UInt8) : bs ⟨l.toArray⟩ = l := by simp [bs]
theorem bs_nil {s : ByteArray} (h : s.size = 0) : bs s = [] := List.eq_nil_of_length_eq_zero h
theorem bs_inj {a b : ByteArray} (h : bs a = bs b) : a = b := by
  apply ByteArray.ext
  exact Array.ext' h
/-- One round of telling. -/
theorem tell_step (o p : ByteArray) (n : Nat) (h : 0 < p.size) (hn : n = min p.size 128) :
    bs (o ++ ((⟨#[UInt8.ofNat (n - 1)]⟩ : ByteArray) ++ p.extract 0 n)) ++ T (bs (p.extract n p.size)) = bs o ++ T (bs p) := by
  have hl : 0 < (bs p).length := h
  rw [T_step (bs p) hl, bs_app, bs_app, bs_ex, bs_ex]
  have e1 : bs (⟨#[UInt8.ofNat (n - 1)]⟩ : ByteArray) = [UInt8.ofNat (n - 1)] := rfl
  rw [e1, bs_len, ← hn]
  have e2 : ((bs p).drop 0).take (n - 0) = (bs p).take 128 := by
    rw [List.drop_zero, Nat.sub_zero, hn]
    rcases Nat.le_total p.size 128 with c | c
    · rw [Nat.min_eq_left c, List.take_of_length_le (by rw [bs_len]; exact Nat.le_refl _), List.take_of_length_le (by rw [bs_len]; exact c)]
    · rw [Nat.min_eq_right c]
  have e3 : ((bs p).drop n).take (p.size - n) = (bs p).drop 128 := by
    rw [List.take_of_length_le (by rw [List.length_drop, bs_len]; exact Nat.le_refl _), hn]
    rcases Nat.le_total p.size 128 with c | c
    · rw [Nat.min_eq_left c, List.drop_eq_nil_of_le (by rw [bs_len]; exact Nat.le_refl _), List.drop_eq_nil_of_le (by rw [bs_len]; exact c)]
    · rw [Nat.min_eq_right c]
  rw [e2, e3]
  simp
theorem ext_all (p : ByteArray) : p.extract 0 p.size = p := by
  apply ByteArray.ext
  rw [ByteArray.data_extract]
  exact Array.extract_size
def TlP (W : World) (H : Nat) (R : List UInt8) (e : Ending) (w' : World) : Prop := ∃ o, e = .returned (.tuple #[]) ∧ bs o = R ∧ DS W H o ⟨#[]⟩ w'
theorem str_none {q : ByteArray} (h : q.size = 0) : q = ⟨#[]⟩ := bs_inj (by rw [bs_nil h]; rfl)
set_option maxRecDepth 100000 in
set_option maxHeartbeats 2000000 in
theorem tell_any (W : World) (H : Nat) (o p : ByteArray) (ho : o.size ≤ 100000) (hp : p.size ≤ 100000) (w : World) (h : DS W H o p w) :
    Calls Tryd.prog 13 #[.pointer (some ⟨H + 1, 0, none⟩), .pointer (some ⟨H, 0, none⟩)] w (TlP W H (bs o ++ T (bs p))) := by
  have HS := Lib.hid h
  clear h
  have hT0 : Hid (bs o ++ T (bs p) = bs o ++ T (bs p)) := Lib.hid rfl
  generalize hR : bs o ++ T (bs p) = R at hT0 ⊢
  have HR := Lib.hid hR
  clear hR hT0
  go_enter Tryd.func13, Tryd.ntmps13
  go_wp2_with fail
  go_loopg [] p.size (fun k wr => ∃ (o' p' : ByteArray), p'.size = k ∧ k ≤ p.size ∧ o'.size + 2 * k ≤ 300000 ∧ Hid (bs o' ++ T (bs p') = R) ∧ Hid (DS W H o' p' wr))
  case atStart => exact ⟨o, p, rfl, Nat.le_refl _, by omega, HR, HS⟩
  case round =>
    obtain ⟨o', p', hk, hk2, hsz, hT, hD⟩ := hrel
    subst hk
    obtain ⟨-, -, c3, c4, c5, c6⟩ := hD.out
    by_cases h0 : 0 < p'.size
    · obtain ⟨hs1, hs2⟩ := size_pos_str h0
      have C := Lib.hid (fun (m : Int) (hm : 0 ≤ m) W => Chr.char_any m hm W)
      have hsz2 : ∀ x : UInt8, (o' ++ ((⟨#[x]⟩ : ByteArray) ++ p'.extract 0 p'.size)).size ≤ 400000 := fun x => by
        rw [ByteArray.size_append, ByteArray.size_append, ByteArray.size_extract]
        have : (⟨#[x]⟩ : ByteArray).size = 1 := rfl
        omega
      by_cases hc : p'.size ≤ 128
      · have hT2 := Lib.hid ((tell_step o' p' p'.size h0 (by omega)).trans hT.out)
        have hcI : (p'.size : Int) ≤ 128 := by omega
        have hm1 : (0 : Int) ≤ (p'.size : Int) - 1 := by omega
        have v1 : IntKind.i64.wrap ((p'.size : Int) - 1) = (p'.size : Int) - 1 := IntWalk.i64_in _ (by omega)
        have v2 : IntKind.u64.wrap ((p'.size : Int) - 1) = (p'.size : Int) - 1 := by rw [IntKind.wrap_u64]; omega
        go_wp2_with fail
        go_region_with ((go_at_call 14; refine ((C.out _ (by omega) _)).mono ?_; rintro e w2 ⟨rfl, hb⟩; have hD2 : DS W H o' p' w2 := (by first | exact hD.out.below hb | exact hD.out.drew.below hb); have HD2 := Lib.hid hD2; obtain ⟨-, -, q3, q4, q5, q6⟩ := hD2; clear hb))
        all_goals
          have hE : o' ++ ((⟨#[UInt8.ofNat ((p'.size - 1) % 256)]⟩ : ByteArray) ++ p') = o' ++ ((⟨#[UInt8.ofNat (p'.size - 1)]⟩ : ByteArray) ++ p'.extract 0 p'.size) := by
            rw [Nat.mod_eq_of_lt (by omega), ext_all]
          have HE := Lib.hid hE
          have hz : (o' ++ ((⟨#[UInt8.ofNat ((p'.size - 1) % 256)]⟩ : ByteArray) ++ p')).size = o'.size + (1 + p'.size) := by
            rw [ByteArray.size_append, ByteArray.size_append]; rfl
          have HZ := Lib.hid hz
          clear hE hz hsz2
          generalize o' ++ ((⟨#[UInt8.ofNat ((p'.size - 1) % 256)]⟩ : ByteArray) ++ p') = O2 at *
          have hD3 := HD2.out.setO O2
          have HD3 := Lib.hid hD3
          obtain ⟨-, -, r3, r4, r5, r6⟩ := hD3
          clear q3 q4 q5 q6
          have hT3 : Hid (bs O2 ++ T (bs ByteArray.empty) = R) := Lib.hid (by
            rw [← hT2.out, ← HE.out]
            congr 2
            rw [bs_nil (s := p'.extract p'.size p'.size) (by rw [ByteArray.size_extract]; omega)]
            rfl)
          have hD4 := Lib.hid (HD3.out.setP ByteArray.empty)
          go_wp2_with fail
          go_roundg 0
          case measure => exact h0
          case rel => exact ⟨O2, ByteArray.empty, rfl, Nat.zero_le _, by have := HZ.out; omega, hT3, hD4⟩
      · have hT2 := Lib.hid ((tell_step o' p' 128 h0 (by omega)).trans hT.out)
        have hcI : ¬ (p'.size : Int) ≤ 128 := by omega
        have hcJ : (128 : Int) < (p'.size : Int) := by omega
        have hcN : 128 < p'.size := by omega
        have v1 : IntKind.i64.wrap 127 = 127 := IntWalk.i64_in _ (by omega)
        have v2 : IntKind.u64.wrap 127 = 127 := by rw [IntKind.wrap_u64]; omega
        go_wp2_with fail
        go_region_with ((go_at_call 14; refine ((C.out _ (by omega) _)).mono ?_; rintro e w2 ⟨rfl, hb⟩; have hD2 : DS W H o' p' w2 := (by first | exact hD.out.below hb | exact hD.out.drew.below hb); have HD2 := Lib.hid hD2; obtain ⟨-, -, q3, q4, q5, q6⟩ := hD2; clear hb))
        all_goals
          have hE : o' ++ ((⟨#[127]⟩ : ByteArray) ++ p'.extract 0 128) = o' ++ ((⟨#[UInt8.ofNat (128 - 1)]⟩ : ByteArray) ++ p'.extract 0 128) := rfl
          have HE := Lib.hid hE
          have hz : (o' ++ ((⟨#[127]⟩ : ByteArray) ++ p'.extract 0 128)).size = o'.size + (1 + 128) := by
            rw [ByteArray.size_append, ByteArray.size_append, ByteArray.size_extract, Nat.min_eq_left (by omega)]; rfl
          have HZ := Lib.hid hz
          clear hE hz hsz2
          generalize o' ++ ((⟨#[127]⟩ : ByteArray) ++ p'.extract 0 128) = O2 at *
          have hD3 := HD2.out.setO O2
          have HD3 := Lib.hid hD3
          obtain ⟨-, -, r3, r4, r5, r6⟩ := hD3
          clear q3 q4 q5 q6
          have hT3 : Hid (bs O2 ++ T (bs (p'.extract 128 p'.size)) = R) := Lib.hid (by rw [← hT2.out, ← HE.out])
          have hD4 := Lib.hid (HD3.out.setP (p'.extract 128 p'.size))
          have hps : Hid ((p'.extract 128 p'.size).size = p'.size - 128) := Lib.hid (by rw [ByteArray.size_extract]; omega)
          go_wp2_with fail
          go_roundg (p'.size - 128)
          case measure => omega
          case rel => exact ⟨O2, p'.extract 128 p'.size, hps.out, by omega, by have := HZ.out; omega, hT3, hD4⟩
    · have h0' : p'.size = 0 := by omega
      obtain ⟨hs1, hs2, hs3⟩ := size_zero_str h0'
      obtain rfl := str_none h0'
      have hR2 := Lib.hid (show bs o' = R by rw [← hT.out, bs_nil (s := ⟨#[]⟩) rfl, T_nil, List.append_nil])
      go_wp2_with fail
      go_end0
      exact ⟨_, rfl, hR2.out, hD.out⟩
end Go.Proofs.YtnbpninnanjemaaDoor.Lz
