/-
  PROVED HERE: strings.SplitSeq at a byte: the pieces come, one by one. Conditions: as each theorem states.
-/
import Derived.Test.YtehmnohkfchljaaDoorSeq
import Derived.Test.YtehmnohkfchljaaDoorShelf
import Derived.Lib.SplitLaws
import Derived.Lib.CutLaws
import Derived.Test.YtehmnohkfchljaaDoorTac
namespace Go.Proofs.YtehmnohkfchljaaDoor.Spl
open Go.RowKit Go.Shelf Go.Proofs.YtehmnohkfchljaaDoor.Seq
/-- What parts; the pieces of a text. -/
def sp (c : UInt8) : ByteArray := ⟨#[c]⟩
def PS (c : UInt8) (s : ByteArray) : List ByteArray := Lib.splitB (sp c) 0 (Lib.countB s (sp c)) s
theorem sp_one (c : UInt8) : 1 ≤ (sp c).size := Nat.le_refl _
theorem PS_len (c : UInt8) (s : ByteArray) : (PS c s).length = Lib.countB s (sp c) + 1 := Lib.splitB_all (sp c) (sp_one c) 0 _ s rfl
theorem ix_one (c : UInt8) (s : ByteArray) : Lib.indexB s (sp c) = Lib.indexByte s.data.toList c := Lib.index_one _ _
theorem PS_miss {c : UInt8} {s : ByteArray} (h : Lib.indexB s (sp c) = -1) : PS c s = [s] := by
  unfold PS
  rw [Lib.countB_miss s (sp c) h]
  rfl
theorem PS_hit {c : UInt8} {s : ByteArray} {i : Nat} (h : Lib.indexB s (sp c) = i) : PS c s = s.extract 0 i :: PS c (s.extract (i + 1) s.size) := by
  have hc := Lib.countB_hit s (sp c) i (sp_one c) h
  unfold PS
  rw [hc, Nat.add_comm 1, Lib.splitB_hit (sp c) 0 _ s i h]
  rfl
def KpS (b : Nat) (A B : World) : Prop := ∀ j, j < 3 → B.heap[b + j]? = A.heap[b + j]?
def TnS (b : Nat) (A B : World) : Prop := ∃ v, B = A.setCell ⟨b, 0, none⟩ (.string v)
/-- The iterator's three cells: what is left of the text; what parts; 0. -/
structure GS (c : UInt8) (b : Nat) (s : ByteArray) (A : World) : Prop where
  c0 : A.cell? ⟨b, 0, none⟩ = some (.string s)
  f0 : A.frozen? ⟨b, 0, none⟩ = false
  c1 : A.cell? ⟨b + 1, 0, none⟩ = some (.string (sp c))
  c2 : A.cell? ⟨b + 2, 0, none⟩ = some (.int .i64 0)
theorem GS.kept {c : UInt8} {b : Nat} {s : ByteArray} {A B : World} (h : GS c b s A) (k : KpS b A B) : GS c b s B :=
  ⟨(World.cell?_of_block (a := ⟨b, 0, none⟩) (k 0 (by omega))).trans h.c0, (World.frozen?_of_block (a := ⟨b, 0, none⟩) (k 0 (by omega))).trans h.f0, (World.cell?_of_block (a := ⟨b + 1, 0, none⟩) (k 1 (by omega))).trans h.c1, (World.cell?_of_block (a := ⟨b + 2, 0, none⟩) (k 2 (by omega))).trans h.c2⟩
theorem GS.turn {c : UInt8} {b : Nat} {s v : ByteArray} {A : World} (h : GS c b s A) : GS c b v (A.setCell ⟨b, 0, none⟩ (.string v)) :=
  ⟨World.cell?_setCell_same _ _ _ h.c0, by rw [World.frozen?_setCell]; exact h.f0, by rw [World.cell?_setCell_other _ _ _ _ (by simp)]; exact h.c1, by rw [World.cell?_setCell_other _ _ _ _ (by simp)]; exact h.c2⟩
def leftS (b : Nat) (A : World) : Nat := match A.cell? ⟨b, 0, none⟩ with | some (.string s) => s.size | _ => 0
theorem leftS_eq {c : UInt8} {b : Nat} {s : ByteArray} {A : World} (h : GS c b s A) : leftS b A = s.size := by unfold leftS; rw [h.c0]
attribute [local go_sem] Oper.semAt_some
set_option maxRecDepth 100000 in
set_option maxHeartbeats 4000000 in
theorem split1_in (c : UInt8) (n : Nat) (hn : 1 ≤ n) (b : Nat) (s : ByteArray) (hs : s.size ≤ 1500) :
    SeqOwn Fence.wide n Tryd.prog 44 #[.pointer (some ⟨b + 1, 0, none⟩), .pointer (some ⟨b, 0, none⟩), .pointer (some ⟨b + 2, 0, none⟩)] (PS c s) (fun x => #[Value.string x]) (TnS b) (KpS b) (GS c b s) := fun l J Jx W hG hJT hY h0 => by
  refine callsIn_of_wp Tryd.func44 rfl trivial ?_ rfl
  simp only [Tryd.ntmps44, List.size_toArray, List.length_cons, List.length_nil, Nat.reduceAdd, Nat.reduceSub, Array.replicate_succ, Array.replicate_zero, List.push_toArray, List.append_toArray, List.nil_append, List.cons_append]
  have HY := Lib.hid hY
  have HJ := Lib.hid hJT
  have HG := Lib.hid hG
  have g0 := hG.c0
  have g1 := hG.c1
  have g2 := hG.c2
  have q0 := hG.f0
  clear hY hJT hG
  gi_wp2
  gi_loopw [] (fun wr => ∃ (k : Nat) (r : ByteArray), k < (PS c s).length ∧ (PS c s).drop k = PS c r ∧ r.size ≤ s.size ∧ J k wr ∧ Hid (GS c b r wr)) (fun wr => leftS b wr)
  case atStart => exact ⟨0, s, by rw [PS_len]; omega, rfl, Nat.le_refl _, h0, HG⟩
  case round =>
    clear g0 g1 g2 q0 HG h0
    obtain ⟨k, r, hk, hd, hr, hJ, HG⟩ := hrel
    have g0 := HG.out.c0
    have g1 : wr.cell? ⟨b + 1, 0, none⟩ = some (.string ⟨#[c]⟩) := HG.out.c1
    have g2 := HG.out.c2
    have q0 := HG.out.f0
    have CI : Hid (∀ W, Calls Tryd.prog 36 #[.string r, .string ⟨#[c]⟩] W fun e w' => e = .returned (.int .i64 (Lib.indexB r (sp c))) ∧ W = w') := Lib.hid (fun W => by
      rw [ix_one]
      exact (Tryd.strings_Index_one r c W).mono fun e w' ⟨h1, h2⟩ => ⟨h1, h2.symm⟩)
    have hcons := List.drop_eq_getElem_cons hk
    rcases Lib.indexB_cases r (sp c) with hm | ⟨i, hi, hb⟩
    · rw [hd, PS_miss hm] at hcons
      obtain ⟨e1, e2⟩ := List.cons.inj hcons
      have hlen : k + 1 = (PS c s).length := by
        have := congrArg List.length e2
        rw [List.length_drop, List.length_nil] at this
        omega
      have Y := HY.out k hk wr hJ
      rw [← e1] at Y
      rw [hm] at CI
      obtain ⟨fn, tmps, assign, body, hy, hR⟩ := Y
      clear hcons e1 e2 hm hd
      gi_wp2_with (refine ⟨trivial, ?_⟩; gi_at_call 36; refine (callsIn_wide.2 (CI.out _)).mono ?_; rintro e w' ⟨rfl, rfl⟩)
      refine hR.mono ?_
      rintro e W3 (⟨rfl, hJ3, hk3⟩ | ⟨rfl, hJx3⟩)
      · gi_wp2
        go_end0
        exact ⟨⟨_, rfl⟩, .inl (by rw [← hlen]; exact hJ3)⟩
      · gi_wp2
        go_end0
        exact ⟨⟨_, rfl⟩, .inr ⟨k, hk, hJx3⟩⟩
    · rw [hd, PS_hit hi] at hcons
      obtain ⟨e1, e2⟩ := List.cons.inj hcons
      have hk1 : k + 1 < (PS c s).length := by
        have := congrArg List.length e2
        rw [List.length_drop, PS_len] at this
        omega
      have hb1 : i + 1 ≤ r.size := hb
      have Y := HY.out k hk wr hJ
      rw [← e1] at Y
      rw [hi] at CI
      obtain ⟨fn, tmps, assign, body, hy, hR⟩ := Y
      have i0 : (0 : Int) ≤ (i : Int) := by omega
      have i1 : (i : Int) ≤ (r.size : Int) := by omega
      have i2 : (i : Int) + 1 ≤ (r.size : Int) := by omega
      have E2 := Lib.hid e2
      clear hcons e1 e2 hi hd hb
      gi_wp2_with (refine ⟨trivial, ?_⟩; gi_at_call 36; refine (callsIn_wide.2 (CI.out _)).mono ?_; rintro e w' ⟨rfl, rfl⟩)
      refine hR.mono ?_
      rintro e W3 (⟨rfl, hJ3, hk3⟩ | ⟨rfl, hJx3⟩)
      · have G3 := HG.out.kept hk3
        have HG3 := Lib.hid G3
        have g0 := G3.c0
        have g1 : W3.cell? ⟨b + 1, 0, none⟩ = some (.string ⟨#[c]⟩) := G3.c1
        have q0 := G3.f0
        clear G3 hk3
        gi_wp2
        go_roundw
        case rel => exact ⟨k + 1, r.extract (i + 1) r.size, hk1, E2.out.symm, by rw [ByteArray.size_extract]; omega, HJ.out _ _ _ hJ3 ⟨_, rfl⟩, Lib.hid HG3.out.turn⟩
        case measure =>
          rw [leftS_eq HG.out, leftS_eq HG3.out.turn, ByteArray.size_extract]
          omega
      · gi_wp2
        refine bodyPost_ret (results_none rfl _ _ _) rfl ?_
        exact ⟨⟨_, rfl⟩, .inr ⟨k, hk, hJx3⟩⟩
/-- The world behind the making of it: three cells. -/
def mkS (c : UInt8) (W : World) (s : ByteArray) : World := ((W.alloc (.cells #[.string s] 9)).alloc (.cells #[.string (sp c)] 9)).alloc (.cells #[.int .i64 0] 3)
theorem mkS_size (c : UInt8) (W : World) (s : ByteArray) : (mkS c W s).heap.size = W.heap.size + 3 := by unfold mkS; rw [World.size_alloc, World.size_alloc, World.size_alloc]
theorem mkS_boxes (c : UInt8) (W : World) (s : ByteArray) : Boxed (mkS c W s) W.heap.size 9 (.string s) ∧ Boxed (mkS c W s) (W.heap.size + 1) 9 (.string (sp c)) ∧ Boxed (mkS c W s) (W.heap.size + 2) 3 (.int .i64 0) := by
  have b5 := Boxed.new W 9 (.string s)
  have b6 := Boxed.new (W.alloc (.cells #[.string s] 9)) 9 (.string (sp c))
  have b7 := Boxed.new ((W.alloc (.cells #[.string s] 9)).alloc (.cells #[.string (sp c)] 9)) 3 (.int .i64 0)
  rw [World.size_alloc] at b6
  rw [World.size_alloc, World.size_alloc] at b7
  exact ⟨(b5.alloc _).alloc _, b6.alloc _, b7⟩
set_option maxHeartbeats 1000000 in
theorem split0_any (c : UInt8) (s : ByteArray) (W : World) : Calls Tryd.prog 38 #[.string s, .string ⟨#[c]⟩, .int .i64 0] W fun e w => e = .returned (.func (.func 44) #[] #[.pointer (some ⟨W.heap.size + 1, 0, none⟩), .pointer (some ⟨W.heap.size, 0, none⟩), .pointer (some ⟨W.heap.size + 1 + 1, 0, none⟩)]) ∧ w = mkS c W s := by
  go_enter Tryd.func38, Tryd.ntmps38
  go_wp2_with fail
  go_ret
  exact ⟨rfl, rfl⟩
set_option maxHeartbeats 1000000 in
theorem splitSeq_any (c : UInt8) (s : ByteArray) (W : World) : Calls Tryd.prog 32 #[.string s, .string ⟨#[c]⟩] W fun e w => e = .returned (.func (.func 44) #[] #[.pointer (some ⟨W.heap.size + 1, 0, none⟩), .pointer (some ⟨W.heap.size, 0, none⟩), .pointer (some ⟨W.heap.size + 1 + 1, 0, none⟩)]) ∧ w = mkS c W s := by
  have C := Lib.hid (split0_any c s W)
  go_enter Tryd.func32, Tryd.ntmps32
  go_wp2_with fail
  refine C.out.mono ?_; rintro e w ⟨rfl, rfl⟩
  go_wp2_with fail
  go_ret
  exact ⟨rfl, rfl⟩
end Go.Proofs.YtehmnohkfchljaaDoor.Spl
