/-
  PROVED HERE: the contract of diff.Far. Conditions: as each theorem states.
-/
import Derived.Test.YtdiiegfhlagfcaaDoorMyM
import Derived.Test.YtdiiegfhlagfcaaDoorTac
import Derived.Deep.QuietTactic
import Derived.BigQuiet
import Derived.Deep.DeepCutAuto
import Derived.Deep.CutBlock
namespace Go.Proofs.YtdiiegfhlagfcaaDoor.My
open Go.RowKit
def Bd (M : Int → Int) : Prop := ∀ k, 0 ≤ M k ∧ M k ≤ 1000
def Ph (a b : ByteArray) (d : Nat) (M : Int → Int) : Prop := (d = 0 → M 1 = 0) ∧ (0 < d → ∀ k : Int, -((d - 1 : Nat) : Int) ≤ k → k ≤ ((d - 1 : Nat) : Int) → (k + ((d - 1 : Nat) : Int)) % 2 = 0 → ∃ x : Nat, M k = x ∧ Fur a b (d - 1) k x)
def Dn (a b : ByteArray) (d : Nat) (k : Int) (M : Int → Int) : Prop := ∀ k' : Int, -(d : Int) ≤ k' → k' < k → (k' + d) % 2 = 0 → ∃ x : Nat, M k' = x ∧ Fur a b d k' x ∧ ¬ (a.size ≤ x ∧ (b.size : Int) ≤ (x : Int) - k')
theorem rch_x {a b : ByteArray} {d x y : Nat} (h : Rch a b d x y) : x ≤ a.size + d := by
  induction h with
  | zero => omega
  | diag _ hx _ _ _ => omega
  | right _ ih => omega
  | down _ ih => omega
theorem far_start {a b : ByteArray} {d : Nat} {k : Int} {M : Int → Int} (hP : Ph a b d M) (hB : Bd M) (h1 : -(d : Int) ≤ k) (h2 : k ≤ d) (h3 : (k + d) % 2 = 0) :
    ∃ s : Nat, (if k = -(d : Int) ∨ (k ≠ d ∧ M (k - 1) < M (k + 1)) then M (k + 1) else M (k - 1) + 1) = (s : Int) ∧ k ≤ s ∧ s ≤ 1001 ∧
      ∀ x, Snk a b k s x → ¬ (x < a.size ∧ ((x : Int) - k).toNat < b.size ∧ byteAt a x = byteAt b ((x : Int) - k).toNat) → Fur a b d k x := by
  have bu := hB (k - 1)
  have bv := hB (k + 1)
  cases d with
  | zero =>
    obtain rfl : k = 0 := by omega
    have h0 := hP.1 rfl
    refine ⟨0, ?_, by omega, by omega, fun x hs hn => fur_zero hs (by simpa using hn)⟩
    rw [if_pos (.inl (by omega))]
    exact h0
  | succ d =>
    have hQ := hP.2 (Nat.succ_pos d)
    simp only [Nat.add_sub_cancel] at hQ
    obtain ⟨u, hu⟩ : ∃ u : Nat, M (k - 1) = (u : Int) := ⟨(M (k - 1)).toNat, by omega⟩
    obtain ⟨v, hv⟩ : ∃ v : Nat, M (k + 1) = (v : Int) := ⟨(M (k + 1)).toNat, by omega⟩
    have fu : k ≠ -((d : Int) + 1) → Fur a b d (k - 1) u := fun h => by
      obtain ⟨x, e, hf⟩ := hQ (k - 1) (by omega) (by omega) (by omega)
      obtain rfl : x = u := by omega
      exact hf
    have fv : k ≠ (d : Int) + 1 → Fur a b d (k + 1) v := fun h => by
      obtain ⟨x, e, hf⟩ := hQ (k + 1) (by omega) (by omega) (by omega)
      obtain rfl : x = v := by omega
      exact hf
    refine ⟨if k = -((d : Int) + 1) ∨ (k ≠ (d : Int) + 1 ∧ u < v) then v else u + 1, ?_, ?_, ?_, fun x hs hn => fur_step ⟨by omega, by omega⟩ fu fv rfl hs hn⟩
    · rw [hu, hv]
      split <;> split <;> omega
    · split
      · have := (fv (by omega)).1; omega
      · rename_i c
        have := (fu (fun e => c (.inl e))).1; omega
    · split <;> omega
theorem bd_put {M : Int → Int} (h : Bd M) (k v : Int) (hv : 0 ≤ v ∧ v ≤ 1000) : Bd (fun x => if x = k then v else M x) := fun x => by
  show 0 ≤ (if x = k then v else M x) ∧ (if x = k then v else M x) ≤ 1000
  split
  · exact hv
  · exact h x
theorem ph_put {a b : ByteArray} {d : Nat} {M : Int → Int} (h : Ph a b d M) (k v : Int) (hk : (k + d) % 2 = 0) : Ph a b d (fun x => if x = k then v else M x) := by
  refine ⟨fun e => ?_, fun e k' g1 g2 g3 => ?_⟩
  · show (if (1 : Int) = k then v else M 1) = 0
    rw [if_neg (by omega)]
    exact h.1 e
  · obtain ⟨x, hx, hf⟩ := h.2 e k' g1 g2 g3
    refine ⟨x, ?_, hf⟩
    show (if k' = k then v else M k') = x
    rw [if_neg (by omega)]
    exact hx
theorem dn_put {a b : ByteArray} {d : Nat} {k : Int} {M : Int → Int} (h : Dn a b d k M) (x : Nat) (hf : Fur a b d k x) (hn : ¬ (a.size ≤ x ∧ (b.size : Int) ≤ (x : Int) - k)) (hk : (k + d) % 2 = 0) : Dn a b d (k + 2) (fun z => if z = k then (x : Int) else M z) := fun k' g1 g2 g3 => by
  by_cases e : k' = k
  · subst e
    exact ⟨x, if_pos rfl, hf, hn⟩
  · obtain ⟨z, hz, h4⟩ := h k' g1 (by omega) g3
    refine ⟨z, ?_, h4⟩
    show (if k' = k then (x : Int) else M k') = z
    rw [if_neg e]
    exact hz
theorem dn_ph {a b : ByteArray} {d : Nat} {M : Int → Int} (h : Dn a b d ((d : Int) + 2) M) : Ph a b (d + 1) M := ⟨fun e => by omega, fun _ k g1 g2 g3 => by
  simp only [Nat.add_sub_cancel] at g1 g2 g3 ⊢
  obtain ⟨x, hx, hf, _⟩ := h k g1 (by omega) g3
  exact ⟨x, hx, hf⟩⟩
theorem dn_yet {a b : ByteArray} {d : Nat} {M : Int → Int} (hd : d ≤ D a b) (h : Dn a b d ((d : Int) + 2) M) : d + 1 ≤ D a b := not_yet hd fun k g1 g2 g3 => by
  obtain ⟨x, _, hf, hn⟩ := h k g1 (by omega) g3
  exact ⟨x, hf, hn⟩
def FoR (a b : ByteArray) (W : World) (dv : Value) (wr : World) : Prop := ∃ (d cnt : Nat) (M : Int → Int), dv = .int .i64 d ∧ d ≤ D a b ∧ cnt ≤ 1 + 400 * d ∧ Hid (Mp wr W.heap.size cnt M) ∧ Hid (Bd M) ∧ Hid (Ph a b d M) ∧ Hid (Below W.heap.size W wr)
def FmR (a b : ByteArray) (d : Nat) (W : World) (kv : Value) (wr : World) : Prop := ∃ (k : Int) (cnt : Nat) (M : Int → Int), kv = .int .i64 k ∧ -(d : Int) ≤ k ∧ k ≤ (d : Int) + 2 ∧ (k + d) % 2 = 0 ∧ 2 * (cnt : Int) ≤ 2 + 800 * d + (k + d) ∧ Hid (Mp wr W.heap.size cnt M) ∧ Hid (Bd M) ∧ Hid (Ph a b d M) ∧ Hid (Dn a b d k M) ∧ Hid (Below W.heap.size W wr)
def FiR (a b : ByteArray) (k : Int) (s : Nat) (w0 : World) (xv : Value) (wr : World) : Prop := ∃ x : Nat, xv = .int .i64 x ∧ x ≤ 2000 ∧ Hid (Snk a b k s x) ∧ Hid (∃ n, wr = w0.drewN n)
theorem drewN_add (w : World) (n m : Nat) : (w.drewN n).drewN m = w.drewN (n + m) := by unfold World.drewN; simp [Nat.add_assoc]
theorem Mp.drewN {w : World} {b cnt : Nat} {M : Int → Int} (h : Mp w b cnt M) (n : Nat) : Mp (w.drewN n) b cnt M := h
theorem d_le (a b : ByteArray) : D a b ≤ a.size + b.size := by unfold D; omega
set_option maxRecDepth 100000 in
set_option maxHeartbeats 4000000 in
theorem far_any (a b : ByteArray) (hs : a.size + b.size ≤ 300) (W : World) :
    Calls Tryd.prog 5 #[.string a, .string b] W fun e w' => e = .returned (.tuple #[.int .i64 (D a b : Nat), .nilIface]) ∧ Below W.heap.size W w' := by
  have hmm := @run_makeMap Tryd.prog
  obtain ⟨w0, e0, hM0, hg0⟩ := (mp_new W).put (by omega) 1 0 (by omega) (by omega)
  have hB0 : Hid (Below W.heap.size W w0) := Lib.hid ((((Below.refl _ W).alloc (Nat.le_refl _) _)).grown hg0 (by simp) (fun k e => by cases e; exact Nat.le_refl _))
  have HM0 := Lib.hid hM0
  have hDl := d_le a b
  clear hM0 hg0
  obtain ⟨R, hR⟩ : ∃ R, D a b = R := ⟨_, rfl⟩
  rw [hR] at hDl ⊢
  have HR := Lib.hid hR
  clear hR
  go_enter Tryd.func5, Tryd.ntmps5
  go_wp2_with fail
  go_loopw [9] (fun dv wr => FoR a b W dv wr) (fun dv _ => R + 1 - (intOf dv).toNat)
  case atStart => exact ⟨0, 1, _, rfl, Nat.zero_le _, by omega, HM0, Lib.hid (fun k => by show 0 ≤ (if k = 1 then (0 : Int) else 0) ∧ (if k = 1 then (0 : Int) else 0) ≤ 1000; split <;> omega), Lib.hid ⟨fun _ => by simp, fun h => by omega⟩, hB0⟩
  case round =>
    obtain ⟨d, cnt, M, rfl, hd, hc, hM, hBd, hPh, hBw⟩ := hrel
    have hdR : d ≤ R := by have := HR.out; omega
    go_wp2_with fail
    go_loopw [10] (fun kv wr => FmR a b d W kv wr) (fun kv _ => ((d : Int) + 2 - intOf kv).toNat)
    case atStart => exact ⟨-(d : Int), cnt, M, rfl, by omega, by omega, by omega, by omega, hM, hBd, hPh, Lib.hid (fun k' g1 g2 => by omega), hBw⟩
    case round =>
      clear hM hBd hPh hBw hc
      obtain ⟨k, cnt2, M, rfl, hk1, hk2, hk3, hc, hM, hBd, hPh, hDn, hBw⟩ := hrel
      by_cases hkd : k ≤ d
      · obtain ⟨s, es, ks, s1, FS⟩ := far_start hPh.out hBd.out hk1 hkd hk3
        have HFS := Lib.hid FS
        have g1 := hM.out.get (k - 1) (by omega)
        have g2 := hM.out.get (k + 1) (by omega)
        have bu := hBd.out (k - 1)
        have bv := hBd.out (k + 1)
        clear FS
        generalize M (k - 1) = mu at *
        generalize M (k + 1) = mw at *
        obtain ⟨bu0, bu1⟩ := bu
        obtain ⟨bv0, bv1⟩ := bv
        go_upto_region 11 with fail
        obtain ⟨cb, hcb⟩ : ∃ cb : Bool, decide (k = -(d : Int) ∨ (k ≠ d ∧ mu < mw)) = cb := ⟨_, rfl⟩
        go_cut [58] (fun c wx => c = .bool cb ∧ wx = wr)
        case first =>
          rcases (show k = -(d : Int) ∨ (k ≠ -(d : Int) ∧ k = d) ∨ (k ≠ -(d : Int) ∧ k ≠ d ∧ mu < mw) ∨ (k ≠ -(d : Int) ∧ k ≠ d ∧ mw ≤ mu) by omega) with c1 | ⟨c1, c2⟩ | ⟨c1, c2, c3⟩ | ⟨c1, c2, c3⟩
          · rw [decide_eq_true (.inl c1)] at hcb
            subst hcb
            have f1 : (k == -(d : Int)) = true := by rw [beq_iff_eq]; exact c1
            clear c1 es
            go_wp2_with fail
            go_meet
            exact ⟨rfl, rfl⟩
          · rw [decide_eq_false (by omega)] at hcb
            subst hcb
            have f1 : (k == -(d : Int)) = false := by rw [beq_eq_false_iff_ne]; exact c1
            have f2 : (k != (d : Int)) = false := by rw [bne_eq_false_iff_eq]; exact c2
            clear c1 c2 es
            go_wp2_with fail
            go_meet
            exact ⟨rfl, rfl⟩
          · rw [decide_eq_true (.inr ⟨c2, c3⟩)] at hcb
            subst hcb
            have f1 : (k == -(d : Int)) = false := by rw [beq_eq_false_iff_ne]; exact c1
            have f2 : (k != (d : Int)) = true := by rw [bne_iff_ne]; exact c2
            clear c1 c2 es
            go_wp2_with fail
            go_meet
            exact ⟨rfl, rfl⟩
          · rw [decide_eq_false (by omega)] at hcb
            subst hcb
            have f1 : (k == -(d : Int)) = false := by rw [beq_eq_false_iff_ne]; exact c1
            have f2 : (k != (d : Int)) = true := by rw [bne_iff_ne]; exact c2
            clear c1 c2 es
            go_wp2_with fail
            go_meet
            exact ⟨congrArg Value.bool (decide_eq_false (by omega)), rfl⟩
        case rest =>
          obtain ⟨rfl, rfl⟩ := hcut
          go_upto_if 58 with fail
          go_cut [11] (fun xv wx => xv = .int .i64 (s : Int) ∧ wx = wc)
          case first =>
            cases cb with
            | true =>
              rw [if_pos (of_decide_eq_true hcb)] at es
              clear hcb
              go_wp2_with fail
              go_meet
              exact ⟨by first | rfl | exact congrArg (Value.int .i64) es, rfl⟩
            | false =>
              rw [if_neg (of_decide_eq_false hcb)] at es
              clear hcb
              go_wp2_with fail
              go_meet
              exact ⟨by first | rfl | exact congrArg (Value.int .i64) es, rfl⟩
          case rest =>
            obtain ⟨rfl, hwc⟩ := hcut
            have hM2 : Hid (Mp wc W.heap.size cnt2 M) := by rw [hwc]; exact hM
            have hB2 : Hid (Below W.heap.size W wc) := by rw [hwc]; exact hBw
            clear hcb es g1 g2 hM hBw hwc bu0 bu1 bv0 bv1
            go_upto_block 4 with fail
            go_cut [11] (fun xv wx => ∃ x : Nat, xv = .int .i64 x ∧ x ≤ 2000 ∧ Hid (Snk a b k s x) ∧ Hid (¬ (x < a.size ∧ ((x : Int) - k).toNat < b.size ∧ byteAt a x = byteAt b ((x : Int) - k).toNat)) ∧ Hid (∃ n, wx = wc.drewN n))
            case first =>
              go_wp2_with fail
              go_loopw [11] (fun xv wr => FiR a b k s wc xv wr) (fun xv _ => 2001 - (intOf xv).toNat)
              case atStart => exact ⟨s, rfl, by omega, Lib.hid (snk_refl ks), Lib.hid ⟨0, rfl⟩⟩
              case round =>
                obtain ⟨x, rfl, hx, hsn, hn⟩ := hrel
                obtain ⟨n, rfl⟩ := hn.out
                clear hn
                have hks := hsn.out.2.1
                have hsx := hsn.out.1
                obtain ⟨y, hy⟩ : ∃ y : Nat, (x : Int) - k = (y : Int) := ⟨((x : Int) - k).toNat, by omega⟩
                have hyn : ((x : Int) - k).toNat = y := by omega
                have hw : IntKind.i64.wrap ((x : Int) - k) = (y : Int) := by rw [hy, IntKind.wrap_i64]; omega
                have hy0 : (0 : Int) ≤ (y : Int) := by omega
                have hx0 : (0 : Int) ≤ (x : Int) := by omega
                by_cases c1 : x < a.size
                · have c1' : (x : Int) < (a.size : Int) := by omega
                  by_cases c2 : y < b.size
                  · have c2' : (y : Int) < (b.size : Int) := by omega
                    have b1 := Lib.hid (byteAt_eq a x c1)
                    have b2 := Lib.hid (byteAt_eq b y c2)
                    by_cases e : byteAt a x = byteAt b y
                    · have e1 : ((a[x].toNat : Int) == (b[y].toNat : Int)) = true := by rw [b1.out, b2.out, e, beq_iff_eq]
                      have HN := Lib.hid (snk_next hsn.out c1 (by rw [hyn]; exact c2) (by rw [hyn]; exact e))
                      clear hyn
                      go_wp2_with fail
                      go_quiet (fail)
                      go_wp2_with fail
                      go_roundw
                      case rel => exact ⟨x + 1, by go_num, by omega, HN, Lib.hid ⟨n + nq, by first | rfl | exact drewN_add _ _ _⟩⟩
                      case measure => simp [intOf]; omega
                    · have e1 : ((a[x].toNat : Int) == (b[y].toNat : Int)) = false := by rw [b1.out, b2.out, beq_eq_false_iff_ne]; omega
                      have HNO : Hid (¬ (x < a.size ∧ ((x : Int) - k).toNat < b.size ∧ byteAt a x = byteAt b ((x : Int) - k).toNat)) := Lib.hid (by rw [hyn]; exact fun h => e h.2.2)
                      clear hyn
                      go_wp2_with fail
                      go_quiet (fail)
                      go_wp2_with fail
                      go_meet
                      exact ⟨x, rfl, hx, hsn, HNO, Lib.hid ⟨n + nq, by first | rfl | exact drewN_add _ _ _⟩⟩
                  · have c2' : (b.size : Int) ≤ (y : Int) := by omega
                    have HNO : Hid (¬ (x < a.size ∧ ((x : Int) - k).toNat < b.size ∧ byteAt a x = byteAt b ((x : Int) - k).toNat)) := Lib.hid (by rw [hyn]; exact fun h => c2 h.2.1)
                    clear hyn c2
                    go_wp2_with fail
                    have q2 : decide (y < b.size) = false := decide_eq_false (by omega)
                    go_quiet (fail)
                    go_wp2_with fail
                    go_meet
                    exact ⟨x, rfl, hx, hsn, HNO, Lib.hid ⟨n + nq, by first | rfl | exact drewN_add _ _ _⟩⟩
                · have c1' : (a.size : Int) ≤ (x : Int) := by omega
                  have HNO : Hid (¬ (x < a.size ∧ ((x : Int) - k).toNat < b.size ∧ byteAt a x = byteAt b ((x : Int) - k).toNat)) := Lib.hid (fun h => c1 h.1)
                  clear hyn c1
                  go_wp2_with fail
                  have q1 : decide (x < a.size) = false := decide_eq_false (by omega)
                  go_quiet (fail)
                  go_wp2_with fail
                  go_meet
                  exact ⟨x, rfl, hx, hsn, HNO, Lib.hid ⟨n + nq, by first | rfl | exact drewN_add _ _ _⟩⟩
            case rest =>
              obtain ⟨x, rfl, hx, hsn, hno, hn⟩ := hcut
              obtain ⟨n, rfl⟩ := hn.out
              clear hn
              have F := HFS.out x hsn.out hno.out
              have hxb := rch_x F.2.1
              have hkx := F.1
              obtain ⟨w', e, hM3, hg3⟩ := (hM2.out.drewN n).put (by omega) k (x : Int) (by omega) (by omega)
              have HM3 := Lib.hid hM3
              have HB3 : Hid (Below W.heap.size W w') := Lib.hid ((below_drewN hB2.out n).grown hg3 hB2.out.size (fun k e => by cases e; exact Nat.le_refl _))
              have HBd := Lib.hid (bd_put hBd.out k (x : Int) ⟨by omega, by omega⟩)
              have HPh := Lib.hid (ph_put hPh.out k (x : Int) hk3)
              have HF := Lib.hid F
              clear hM3 hg3 F hsn hno HFS
              obtain ⟨y, hy⟩ : ∃ y : Nat, (x : Int) - k = (y : Int) := ⟨((x : Int) - k).toNat, by omega⟩
              have hx0 : (0 : Int) ≤ (x : Int) := by omega
              have hy0 : (0 : Int) ≤ (y : Int) := by omega
              by_cases c1 : a.size ≤ x
              · have c1' : (a.size : Int) ≤ (x : Int) := by omega
                by_cases c2 : b.size ≤ y
                · have c2' : (b.size : Int) ≤ (y : Int) := by omega
                  have hit := hit_is HF.out.2.1 c1 (by omega) hd
                  obtain rfl : d = R := hit.trans HR.out
                  go_wp2_with fail
                  go_ret2
                  exact ⟨rfl, HB3.out⟩
                · have c2' : (y : Int) < (b.size : Int) := by omega
                  have HDn := Lib.hid (dn_put hDn.out x HF.out (by omega) hk3)
                  clear c2
                  go_wp2_with fail
                  go_roundw
                  case rel => first | exact ⟨k + 2, cnt2 + 1, _, by go_num, by omega, by omega, by omega, by omega, HM3, HBd, HPh, HDn, HB3⟩ | ((repeat apply Exists.intro); exact ⟨⟨k + 2, cnt2 + 1, _, by go_num, by omega, by omega, by omega, by omega, HM3, HBd, HPh, HDn, HB3⟩, rfl⟩)
                  case measure => simp [intOf]; omega
              · have c1' : (x : Int) < (a.size : Int) := by omega
                have HDn := Lib.hid (dn_put hDn.out x HF.out (by omega) hk3)
                clear c1
                go_wp2_with fail
                go_roundw
                case rel => first | exact ⟨k + 2, cnt2 + 1, _, by go_num, by omega, by omega, by omega, by omega, HM3, HBd, HPh, HDn, HB3⟩ | ((repeat apply Exists.intro); exact ⟨⟨k + 2, cnt2 + 1, _, by go_num, by omega, by omega, by omega, by omega, HM3, HBd, HPh, HDn, HB3⟩, rfl⟩)
                case measure => simp [intOf]; omega
      · obtain rfl : k = (d : Int) + 2 := by omega
        have hD1 := dn_yet hd hDn.out
        have hP1 := Lib.hid (dn_ph hDn.out)
        go_wp2_with fail
        go_roundw
        case rel => first | exact ⟨d + 1, cnt2, M, by go_num, hD1, by omega, hM, hBd, hP1, hBw⟩ | ((repeat apply Exists.intro); exact ⟨⟨d + 1, cnt2, M, by go_num, hD1, by omega, hM, hBd, hP1, hBw⟩, rfl⟩)
        case measure => simp [intOf]; omega
end Go.Proofs.YtdiiegfhlagfcaaDoor.My
