/-
  PROVED HERE: which words are no names, by the document and by the program; the contracts of the program's kind and kept; the contracts of the program's tmpl.name and tmpl.rule; the contracts of the program's tmpl.item and tmpl.block; the contract of the program's tmpl.block; the contract of the program's tmpl.Parse. Conditions: as each theorem states.
-/
import Derived.Test.YtofmheeiplagjaaGreatDoorTmL
import Derived.Test.YtofmheeiplagjaaGreatDoorTmN
import Derived.Test.YtofmheeiplagjaaGreatDoorExpE
import Derived.Deep.DeepCutAuto
import Derived.Deep.CutBlock
import Derived.Test.YtofmheeiplagjaaGreatDoorTmQ
import Derived.Test.YtofmheeiplagjaaGreatDoorExpF
namespace Go.Proofs.YtofmheeiplagjaaGreatDoor.Tm
open Go.RowKit Go.Proofs.YtofmheeiplagjaaGreatDoor.Lex Go.Proofs.YtofmheeiplagjaaGreatDoor.Dig
def wordAt (A : List UInt8) (i : Nat) : List UInt8 := (A.drop (i + 1)).takeWhile (fun c => c != 32)
theorem takeWhile_word (s r : List UInt8) (h : ∀ c ∈ s, c ≠ 32) : (s ++ 32 :: r).takeWhile (fun c => c != 32) = s := by
  induction s with
  | nil => rfl
  | cons c s ih =>
    have hc : (c != 32) = true := by simpa using h c (by simp)
    rw [List.cons_append, List.takeWhile_cons, if_pos hc, ih (fun x hx => h x (List.mem_cons_of_mem _ hx))]
theorem spaced_list (s : ByteArray) : (spaced s).data.toList = 32 :: (s.data.toList ++ [32]) := by unfold spaced; simp [ByteArray.data_append]
/-- A word that stands between blanks is one of the words between blanks. -/
theorem inside_word {A s : ByteArray} (hs : Nob s) (h : inside A s = true) : ∃ i, i < A.data.toList.length ∧ A.data.toList[i]? = some 32 ∧ wordAt A.data.toList i = s.data.toList := by
  unfold inside Lib.contains at h
  have h0 := of_decide_eq_true h
  have hr := Lib.index_room _ _ h0
  rcases Lib.index_spec A.data.toList (spaced s).data.toList with ⟨e, _⟩ | ⟨i, e, _, ho, _⟩
  · rw [e] at h0; omega
  rw [e, spaced_len] at hr
  rw [Lib.occAt_iff_take _ _ _ (by rw [spaced_len]; omega), beq_iff_eq] at ho
  refine ⟨i, by omega, ?_, ?_⟩
  · have := congrArg (fun x => x[0]?) ho
    simp only [List.getElem?_take, List.getElem?_drop, spaced_first] at this
    rw [spaced_len, if_pos (by omega)] at this
    simpa using this
  · unfold wordAt
    rw [spaced_list] at ho
    have hl : A.data.toList.drop i = (32 :: (s.data.toList ++ [32])) ++ (A.data.toList.drop i).drop (32 :: (s.data.toList ++ [32])).length := by
      conv => lhs; rw [← List.take_append_drop (32 :: (s.data.toList ++ [32])).length (A.data.toList.drop i)]
      rw [ho]
    have h2 : A.data.toList.drop (i + 1) = s.data.toList ++ 32 :: (A.data.toList.drop i).drop (32 :: (s.data.toList ++ [32])).length := by
      have := congrArg (List.drop 1) hl
      rw [List.drop_drop] at this
      rw [this]
      simp
    rw [h2]
    exact takeWhile_word _ _ hs
def numWords : List (List UInt8) := [[117, 56], [105, 56], [117, 49, 54, 108, 101], [117, 49, 54, 98, 101], [105, 49, 54, 108, 101], [105, 49, 54, 98, 101], [117, 51, 50, 108, 101], [117, 51, 50, 98, 101], [105, 51, 50, 108, 101], [105, 51, 50, 98, 101], [105, 54, 52, 108, 101], [105, 54, 52, 98, 101]]
def keptWords : List (List UInt8) := [[115, 116, 114, 117, 99, 116], [98, 121, 116, 101, 115], [119, 104, 101, 110], [115, 105, 122, 101], [99, 111, 117, 110, 116], [99, 104, 101, 99, 107]]
set_option maxRecDepth 20000 in
theorem nums_words : ∀ i : Fin 67, NUMS.data.toList[i.val]? = some 32 → wordAt NUMS.data.toList i.val = [] ∨ wordAt NUMS.data.toList i.val ∈ numWords := by decide +kernel
set_option maxRecDepth 20000 in
theorem kept_words : ∀ i : Fin 36, KEPT.data.toList[i.val]? = some 32 → wordAt KEPT.data.toList i.val = [] ∨ wordAt KEPT.data.toList i.val ∈ keptWords := by decide +kernel
theorem data_eq {s t : ByteArray} (h : s.data.toList = t.data.toList) : s = t := by
  apply ByteArray.ext
  exact Array.toList_inj.1 h
theorem isNum_words {s : ByteArray} (hs : Nob s) (h : isNumP s = true) : s.data.toList ∈ numWords := by
  unfold isNumP at h
  by_cases he : s = emp
  · rw [if_pos he] at h; cases h
  rw [if_neg he] at h
  obtain ⟨i, hi, h32, hw⟩ := inside_word hs h
  have hN : NUMS.data.toList.length = 67 := by decide
  rcases nums_words ⟨i, by omega⟩ h32 with e | e
  · rw [hw] at e
    exact absurd (data_eq e) he
  · rw [hw] at e; exact e
theorem kept_word {s : ByteArray} (hs : Nob s) (he : s ≠ emp) (h : inside KEPT s = true) : s.data.toList ∈ keptWords := by
  obtain ⟨i, hi, h32, hw⟩ := inside_word hs h
  have hN : KEPT.data.toList.length = 36 := by decide
  rcases kept_words ⟨i, by omega⟩ h32 with e | e
  · rw [hw] at e
    exact absurd (data_eq e) he
  · rw [hw] at e; exact e
/-- The words of numbers, one by one. -/
theorem num_cases {s : ByteArray} (hs : Nob s) (h : isNumP s = true) : s = ⟨#[117, 56]⟩ ∨ s = ⟨#[105, 56]⟩ ∨ s = ⟨#[117, 49, 54, 108, 101]⟩ ∨ s = ⟨#[117, 49, 54, 98, 101]⟩ ∨ s = ⟨#[105, 49, 54, 108, 101]⟩ ∨ s = ⟨#[105, 49, 54, 98, 101]⟩ ∨ s = ⟨#[117, 51, 50, 108, 101]⟩ ∨ s = ⟨#[117, 51, 50, 98, 101]⟩ ∨ s = ⟨#[105, 51, 50, 108, 101]⟩ ∨ s = ⟨#[105, 51, 50, 98, 101]⟩ ∨ s = ⟨#[105, 54, 52, 108, 101]⟩ ∨ s = ⟨#[105, 54, 52, 98, 101]⟩ := by
  have hw := isNum_words hs h
  simp only [numWords, List.mem_cons, List.not_mem_nil, or_false] at hw
  have c : ∀ a : Array UInt8, s.data.toList = a.toList → s = ⟨a⟩ := fun a e => data_eq e
  rcases hw with e | e | e | e | e | e | e | e | e | e | e | e
  · exact .inl (c #[117, 56] e)
  · exact .inr (.inl (c #[105, 56] e))
  · exact .inr (.inr (.inl (c #[117, 49, 54, 108, 101] e)))
  · exact .inr (.inr (.inr (.inl (c #[117, 49, 54, 98, 101] e))))
  · exact .inr (.inr (.inr (.inr (.inl (c #[105, 49, 54, 108, 101] e)))))
  · exact .inr (.inr (.inr (.inr (.inr (.inl (c #[105, 49, 54, 98, 101] e))))))
  · exact .inr (.inr (.inr (.inr (.inr (.inr (.inl (c #[117, 51, 50, 108, 101] e)))))))
  · exact .inr (.inr (.inr (.inr (.inr (.inr (.inr (.inl (c #[117, 51, 50, 98, 101] e))))))))
  · exact .inr (.inr (.inr (.inr (.inr (.inr (.inr (.inr (.inl (c #[105, 51, 50, 108, 101] e)))))))))
  · exact .inr (.inr (.inr (.inr (.inr (.inr (.inr (.inr (.inr (.inl (c #[105, 51, 50, 98, 101] e))))))))))
  · exact .inr (.inr (.inr (.inr (.inr (.inr (.inr (.inr (.inr (.inr (.inl (c #[105, 54, 52, 108, 101] e)))))))))))
  · exact .inr (.inr (.inr (.inr (.inr (.inr (.inr (.inr (.inr (.inr (.inr (c #[105, 54, 52, 98, 101] e)))))))))))
theorem kept_cases {s : ByteArray} (hs : Nob s) (he : s ≠ emp) (h : inside KEPT s = true) : s = ⟨#[115, 116, 114, 117, 99, 116]⟩ ∨ s = ⟨#[98, 121, 116, 101, 115]⟩ ∨ s = ⟨#[119, 104, 101, 110]⟩ ∨ s = ⟨#[115, 105, 122, 101]⟩ ∨ s = ⟨#[99, 111, 117, 110, 116]⟩ ∨ s = ⟨#[99, 104, 101, 99, 107]⟩ := by
  have hw := kept_word hs he h
  simp only [keptWords, List.mem_cons, List.not_mem_nil, or_false] at hw
  have c : ∀ a : Array UInt8, s.data.toList = a.toList → s = ⟨a⟩ := fun a e => data_eq e
  rcases hw with e | e | e | e | e | e
  · exact .inl (c #[115, 116, 114, 117, 99, 116] e)
  · exact .inr (.inl (c #[98, 121, 116, 101, 115] e))
  · exact .inr (.inr (.inl (c #[119, 104, 101, 110] e)))
  · exact .inr (.inr (.inr (.inl (c #[115, 105, 122, 101] e))))
  · exact .inr (.inr (.inr (.inr (.inl (c #[99, 111, 117, 110, 116] e)))))
  · exact .inr (.inr (.inr (.inr (.inr (c #[99, 104, 101, 99, 107] e)))))
def numW (s : ByteArray) : Int := widthOf (byteAt s 1)
def numO (s : ByteArray) : Int := if Lib.hasSuffix s.data.toList [98, 101] = true then 1 else 0
def numS (s : ByteArray) : Bool := ((byteAt s 0 : Nat) : Int) == 105
/-- What the program's kind answers. -/
def kindV (s : ByteArray) : Value := if isNumP s = true then .tuple #[.int .i64 (numW s), .int .i64 (numO s), .bool (numS s), .bool true] else .tuple #[.int .i64 0, .int .i64 0, .bool false, .bool false]
def KindC (s : ByteArray) : Prop := ∀ W : World, Calls Tryz.prog 85 #[.string s] W fun e w' => e = .returned (kindV s) ∧ Below W.heap.size W w'
theorem results_tmp4 {fn : Func} {t u v x : Tmp} (h : fn.results = #[.tmp t, .tmp u, .tmp v, .tmp x]) (tmps : Array Value) (P : Program) (w : World) :
    (results fn tmps).run P w = .ok (.tuple #[tmps.getD t undef, tmps.getD u undef, tmps.getD v undef, tmps.getD x undef]) w := by
  simp [results, h]
set_option maxRecDepth 100000 in
theorem kind_u8 : KindC ⟨#[117, 56]⟩ := by
  intro W
  have e : kindV ⟨#[117, 56]⟩ = .tuple #[.int .i64 1, .int .i64 0, .bool false, .bool true] := by
    unfold kindV
    rw [if_pos (by decide +kernel), show numW ⟨#[117, 56]⟩ = 1 by decide, show numO ⟨#[117, 56]⟩ = 0 by decide, show numS ⟨#[117, 56]⟩ = false by decide]
  rw [e]
  clear e
  go_enter Tryz.func85, Tryz.ntmps85
  go_wp2_with fail
  (try simp only [Exit.inBlock, Exit.then])
  refine bodyPost_ret (results_tmp4 rfl _ _ _) rfl ?_
  exact ⟨rfl, Below.refl _ _⟩
set_option maxRecDepth 100000 in
theorem kind_i8 : KindC ⟨#[105, 56]⟩ := by
  intro W
  have e : kindV ⟨#[105, 56]⟩ = .tuple #[.int .i64 1, .int .i64 0, .bool true, .bool true] := by
    unfold kindV
    rw [if_pos (by decide +kernel), show numW ⟨#[105, 56]⟩ = 1 by decide, show numO ⟨#[105, 56]⟩ = 0 by decide, show numS ⟨#[105, 56]⟩ = true by decide]
  rw [e]
  clear e
  go_enter Tryz.func85, Tryz.ntmps85
  go_wp2_with fail
  (try simp only [Exit.inBlock, Exit.then])
  refine bodyPost_ret (results_tmp4 rfl _ _ _) rfl ?_
  exact ⟨rfl, Below.refl _ _⟩
set_option maxRecDepth 100000 in
theorem kind_u16le : KindC ⟨#[117, 49, 54, 108, 101]⟩ := by
  intro W
  have e : kindV ⟨#[117, 49, 54, 108, 101]⟩ = .tuple #[.int .i64 2, .int .i64 0, .bool false, .bool true] := by
    unfold kindV
    rw [if_pos (by decide +kernel), show numW ⟨#[117, 49, 54, 108, 101]⟩ = 2 by decide, show numO ⟨#[117, 49, 54, 108, 101]⟩ = 0 by decide, show numS ⟨#[117, 49, 54, 108, 101]⟩ = false by decide]
  rw [e]
  clear e
  have C := Lib.hid (fun w => Tryz.strings_HasSuffix ⟨#[117, 49, 54, 108, 101]⟩ ⟨#[98, 101]⟩ w (by decide))
  have hb : Lib.hasSuffix (⟨#[117, 49, 54, 108, 101]⟩ : ByteArray).data.toList (⟨#[98, 101]⟩ : ByteArray).data.toList = false := by decide
  rw [hb] at C
  clear hb
  go_enter Tryz.func85, Tryz.ntmps85
  go_wp2_with fail
  refine (C.out _).mono ?_; rintro e w1 ⟨rfl, rfl⟩
  go_upto_region 21 with fail
  go_region
  all_goals
    go_wp2_with fail
    (try simp only [Exit.inBlock, Exit.then])
    refine bodyPost_ret (results_tmp4 rfl _ _ _) rfl ?_
    exact ⟨rfl, by first | exact Below.refl _ _ | exact (Below.refl _ _).drew⟩
set_option maxRecDepth 100000 in
theorem kind_u16be : KindC ⟨#[117, 49, 54, 98, 101]⟩ := by
  intro W
  have e : kindV ⟨#[117, 49, 54, 98, 101]⟩ = .tuple #[.int .i64 2, .int .i64 1, .bool false, .bool true] := by
    unfold kindV
    rw [if_pos (by decide +kernel), show numW ⟨#[117, 49, 54, 98, 101]⟩ = 2 by decide, show numO ⟨#[117, 49, 54, 98, 101]⟩ = 1 by decide, show numS ⟨#[117, 49, 54, 98, 101]⟩ = false by decide]
  rw [e]
  clear e
  have C := Lib.hid (fun w => Tryz.strings_HasSuffix ⟨#[117, 49, 54, 98, 101]⟩ ⟨#[98, 101]⟩ w (by decide))
  have hb : Lib.hasSuffix (⟨#[117, 49, 54, 98, 101]⟩ : ByteArray).data.toList (⟨#[98, 101]⟩ : ByteArray).data.toList = true := by decide
  rw [hb] at C
  clear hb
  go_enter Tryz.func85, Tryz.ntmps85
  go_wp2_with fail
  refine (C.out _).mono ?_; rintro e w1 ⟨rfl, rfl⟩
  go_upto_region 21 with fail
  go_region
  all_goals
    go_wp2_with fail
    (try simp only [Exit.inBlock, Exit.then])
    refine bodyPost_ret (results_tmp4 rfl _ _ _) rfl ?_
    exact ⟨rfl, by first | exact Below.refl _ _ | exact (Below.refl _ _).drew⟩
set_option maxRecDepth 100000 in
theorem kind_i16le : KindC ⟨#[105, 49, 54, 108, 101]⟩ := by
  intro W
  have e : kindV ⟨#[105, 49, 54, 108, 101]⟩ = .tuple #[.int .i64 2, .int .i64 0, .bool true, .bool true] := by
    unfold kindV
    rw [if_pos (by decide +kernel), show numW ⟨#[105, 49, 54, 108, 101]⟩ = 2 by decide, show numO ⟨#[105, 49, 54, 108, 101]⟩ = 0 by decide, show numS ⟨#[105, 49, 54, 108, 101]⟩ = true by decide]
  rw [e]
  clear e
  have C := Lib.hid (fun w => Tryz.strings_HasSuffix ⟨#[105, 49, 54, 108, 101]⟩ ⟨#[98, 101]⟩ w (by decide))
  have hb : Lib.hasSuffix (⟨#[105, 49, 54, 108, 101]⟩ : ByteArray).data.toList (⟨#[98, 101]⟩ : ByteArray).data.toList = false := by decide
  rw [hb] at C
  clear hb
  go_enter Tryz.func85, Tryz.ntmps85
  go_wp2_with fail
  refine (C.out _).mono ?_; rintro e w1 ⟨rfl, rfl⟩
  go_upto_region 21 with fail
  go_region
  all_goals
    go_wp2_with fail
    (try simp only [Exit.inBlock, Exit.then])
    refine bodyPost_ret (results_tmp4 rfl _ _ _) rfl ?_
    exact ⟨rfl, by first | exact Below.refl _ _ | exact (Below.refl _ _).drew⟩
set_option maxRecDepth 100000 in
theorem kind_i16be : KindC ⟨#[105, 49, 54, 98, 101]⟩ := by
  intro W
  have e : kindV ⟨#[105, 49, 54, 98, 101]⟩ = .tuple #[.int .i64 2, .int .i64 1, .bool true, .bool true] := by
    unfold kindV
    rw [if_pos (by decide +kernel), show numW ⟨#[105, 49, 54, 98, 101]⟩ = 2 by decide, show numO ⟨#[105, 49, 54, 98, 101]⟩ = 1 by decide, show numS ⟨#[105, 49, 54, 98, 101]⟩ = true by decide]
  rw [e]
  clear e
  have C := Lib.hid (fun w => Tryz.strings_HasSuffix ⟨#[105, 49, 54, 98, 101]⟩ ⟨#[98, 101]⟩ w (by decide))
  have hb : Lib.hasSuffix (⟨#[105, 49, 54, 98, 101]⟩ : ByteArray).data.toList (⟨#[98, 101]⟩ : ByteArray).data.toList = true := by decide
  rw [hb] at C
  clear hb
  go_enter Tryz.func85, Tryz.ntmps85
  go_wp2_with fail
  refine (C.out _).mono ?_; rintro e w1 ⟨rfl, rfl⟩
  go_upto_region 21 with fail
  go_region
  all_goals
    go_wp2_with fail
    (try simp only [Exit.inBlock, Exit.then])
    refine bodyPost_ret (results_tmp4 rfl _ _ _) rfl ?_
    exact ⟨rfl, by first | exact Below.refl _ _ | exact (Below.refl _ _).drew⟩
set_option maxRecDepth 100000 in
theorem kind_u32le : KindC ⟨#[117, 51, 50, 108, 101]⟩ := by
  intro W
  have e : kindV ⟨#[117, 51, 50, 108, 101]⟩ = .tuple #[.int .i64 4, .int .i64 0, .bool false, .bool true] := by
    unfold kindV
    rw [if_pos (by decide +kernel), show numW ⟨#[117, 51, 50, 108, 101]⟩ = 4 by decide, show numO ⟨#[117, 51, 50, 108, 101]⟩ = 0 by decide, show numS ⟨#[117, 51, 50, 108, 101]⟩ = false by decide]
  rw [e]
  clear e
  have C := Lib.hid (fun w => Tryz.strings_HasSuffix ⟨#[117, 51, 50, 108, 101]⟩ ⟨#[98, 101]⟩ w (by decide))
  have hb : Lib.hasSuffix (⟨#[117, 51, 50, 108, 101]⟩ : ByteArray).data.toList (⟨#[98, 101]⟩ : ByteArray).data.toList = false := by decide
  rw [hb] at C
  clear hb
  go_enter Tryz.func85, Tryz.ntmps85
  go_wp2_with fail
  refine (C.out _).mono ?_; rintro e w1 ⟨rfl, rfl⟩
  go_upto_region 21 with fail
  go_region
  all_goals
    go_wp2_with fail
    (try simp only [Exit.inBlock, Exit.then])
    refine bodyPost_ret (results_tmp4 rfl _ _ _) rfl ?_
    exact ⟨rfl, by first | exact Below.refl _ _ | exact (Below.refl _ _).drew⟩
set_option maxRecDepth 100000 in
theorem kind_u32be : KindC ⟨#[117, 51, 50, 98, 101]⟩ := by
  intro W
  have e : kindV ⟨#[117, 51, 50, 98, 101]⟩ = .tuple #[.int .i64 4, .int .i64 1, .bool false, .bool true] := by
    unfold kindV
    rw [if_pos (by decide +kernel), show numW ⟨#[117, 51, 50, 98, 101]⟩ = 4 by decide, show numO ⟨#[117, 51, 50, 98, 101]⟩ = 1 by decide, show numS ⟨#[117, 51, 50, 98, 101]⟩ = false by decide]
  rw [e]
  clear e
  have C := Lib.hid (fun w => Tryz.strings_HasSuffix ⟨#[117, 51, 50, 98, 101]⟩ ⟨#[98, 101]⟩ w (by decide))
  have hb : Lib.hasSuffix (⟨#[117, 51, 50, 98, 101]⟩ : ByteArray).data.toList (⟨#[98, 101]⟩ : ByteArray).data.toList = true := by decide
  rw [hb] at C
  clear hb
  go_enter Tryz.func85, Tryz.ntmps85
  go_wp2_with fail
  refine (C.out _).mono ?_; rintro e w1 ⟨rfl, rfl⟩
  go_upto_region 21 with fail
  go_region
  all_goals
    go_wp2_with fail
    (try simp only [Exit.inBlock, Exit.then])
    refine bodyPost_ret (results_tmp4 rfl _ _ _) rfl ?_
    exact ⟨rfl, by first | exact Below.refl _ _ | exact (Below.refl _ _).drew⟩
set_option maxRecDepth 100000 in
theorem kind_i32le : KindC ⟨#[105, 51, 50, 108, 101]⟩ := by
  intro W
  have e : kindV ⟨#[105, 51, 50, 108, 101]⟩ = .tuple #[.int .i64 4, .int .i64 0, .bool true, .bool true] := by
    unfold kindV
    rw [if_pos (by decide +kernel), show numW ⟨#[105, 51, 50, 108, 101]⟩ = 4 by decide, show numO ⟨#[105, 51, 50, 108, 101]⟩ = 0 by decide, show numS ⟨#[105, 51, 50, 108, 101]⟩ = true by decide]
  rw [e]
  clear e
  have C := Lib.hid (fun w => Tryz.strings_HasSuffix ⟨#[105, 51, 50, 108, 101]⟩ ⟨#[98, 101]⟩ w (by decide))
  have hb : Lib.hasSuffix (⟨#[105, 51, 50, 108, 101]⟩ : ByteArray).data.toList (⟨#[98, 101]⟩ : ByteArray).data.toList = false := by decide
  rw [hb] at C
  clear hb
  go_enter Tryz.func85, Tryz.ntmps85
  go_wp2_with fail
  refine (C.out _).mono ?_; rintro e w1 ⟨rfl, rfl⟩
  go_upto_region 21 with fail
  go_region
  all_goals
    go_wp2_with fail
    (try simp only [Exit.inBlock, Exit.then])
    refine bodyPost_ret (results_tmp4 rfl _ _ _) rfl ?_
    exact ⟨rfl, by first | exact Below.refl _ _ | exact (Below.refl _ _).drew⟩
set_option maxRecDepth 100000 in
theorem kind_i32be : KindC ⟨#[105, 51, 50, 98, 101]⟩ := by
  intro W
  have e : kindV ⟨#[105, 51, 50, 98, 101]⟩ = .tuple #[.int .i64 4, .int .i64 1, .bool true, .bool true] := by
    unfold kindV
    rw [if_pos (by decide +kernel), show numW ⟨#[105, 51, 50, 98, 101]⟩ = 4 by decide, show numO ⟨#[105, 51, 50, 98, 101]⟩ = 1 by decide, show numS ⟨#[105, 51, 50, 98, 101]⟩ = true by decide]
  rw [e]
  clear e
  have C := Lib.hid (fun w => Tryz.strings_HasSuffix ⟨#[105, 51, 50, 98, 101]⟩ ⟨#[98, 101]⟩ w (by decide))
  have hb : Lib.hasSuffix (⟨#[105, 51, 50, 98, 101]⟩ : ByteArray).data.toList (⟨#[98, 101]⟩ : ByteArray).data.toList = true := by decide
  rw [hb] at C
  clear hb
  go_enter Tryz.func85, Tryz.ntmps85
  go_wp2_with fail
  refine (C.out _).mono ?_; rintro e w1 ⟨rfl, rfl⟩
  go_upto_region 21 with fail
  go_region
  all_goals
    go_wp2_with fail
    (try simp only [Exit.inBlock, Exit.then])
    refine bodyPost_ret (results_tmp4 rfl _ _ _) rfl ?_
    exact ⟨rfl, by first | exact Below.refl _ _ | exact (Below.refl _ _).drew⟩
set_option maxRecDepth 100000 in
theorem kind_i64le : KindC ⟨#[105, 54, 52, 108, 101]⟩ := by
  intro W
  have e : kindV ⟨#[105, 54, 52, 108, 101]⟩ = .tuple #[.int .i64 8, .int .i64 0, .bool true, .bool true] := by
    unfold kindV
    rw [if_pos (by decide +kernel), show numW ⟨#[105, 54, 52, 108, 101]⟩ = 8 by decide, show numO ⟨#[105, 54, 52, 108, 101]⟩ = 0 by decide, show numS ⟨#[105, 54, 52, 108, 101]⟩ = true by decide]
  rw [e]
  clear e
  have C := Lib.hid (fun w => Tryz.strings_HasSuffix ⟨#[105, 54, 52, 108, 101]⟩ ⟨#[98, 101]⟩ w (by decide))
  have hb : Lib.hasSuffix (⟨#[105, 54, 52, 108, 101]⟩ : ByteArray).data.toList (⟨#[98, 101]⟩ : ByteArray).data.toList = false := by decide
  rw [hb] at C
  clear hb
  go_enter Tryz.func85, Tryz.ntmps85
  go_wp2_with fail
  refine (C.out _).mono ?_; rintro e w1 ⟨rfl, rfl⟩
  go_upto_region 21 with fail
  go_region
  all_goals
    go_wp2_with fail
    (try simp only [Exit.inBlock, Exit.then])
    refine bodyPost_ret (results_tmp4 rfl _ _ _) rfl ?_
    exact ⟨rfl, by first | exact Below.refl _ _ | exact (Below.refl _ _).drew⟩
set_option maxRecDepth 100000 in
theorem kind_i64be : KindC ⟨#[105, 54, 52, 98, 101]⟩ := by
  intro W
  have e : kindV ⟨#[105, 54, 52, 98, 101]⟩ = .tuple #[.int .i64 8, .int .i64 1, .bool true, .bool true] := by
    unfold kindV
    rw [if_pos (by decide +kernel), show numW ⟨#[105, 54, 52, 98, 101]⟩ = 8 by decide, show numO ⟨#[105, 54, 52, 98, 101]⟩ = 1 by decide, show numS ⟨#[105, 54, 52, 98, 101]⟩ = true by decide]
  rw [e]
  clear e
  have C := Lib.hid (fun w => Tryz.strings_HasSuffix ⟨#[105, 54, 52, 98, 101]⟩ ⟨#[98, 101]⟩ w (by decide))
  have hb : Lib.hasSuffix (⟨#[105, 54, 52, 98, 101]⟩ : ByteArray).data.toList (⟨#[98, 101]⟩ : ByteArray).data.toList = true := by decide
  rw [hb] at C
  clear hb
  go_enter Tryz.func85, Tryz.ntmps85
  go_wp2_with fail
  refine (C.out _).mono ?_; rintro e w1 ⟨rfl, rfl⟩
  go_upto_region 21 with fail
  go_region
  all_goals
    go_wp2_with fail
    (try simp only [Exit.inBlock, Exit.then])
    refine bodyPost_ret (results_tmp4 rfl _ _ _) rfl ?_
    exact ⟨rfl, by first | exact Below.refl _ _ | exact (Below.refl _ _).drew⟩
set_option maxRecDepth 100000 in
theorem kind_no {s : ByteArray} (h : isNumP s = false) : KindC s := by
  intro W
  have e : kindV s = .tuple #[.int .i64 0, .int .i64 0, .bool false, .bool false] := if_neg (by rw [h]; decide)
  rw [e]
  have f0 : (s.toList == [117, 56]) = false := tl_no (a := #[117, 56]) (by rintro rfl; exact absurd h (by decide +kernel))
  have f1 : (s.toList == [105, 56]) = false := tl_no (a := #[105, 56]) (by rintro rfl; exact absurd h (by decide +kernel))
  have f2 : (s.toList == [117, 49, 54, 108, 101]) = false := tl_no (a := #[117, 49, 54, 108, 101]) (by rintro rfl; exact absurd h (by decide +kernel))
  have f3 : (s.toList == [117, 49, 54, 98, 101]) = false := tl_no (a := #[117, 49, 54, 98, 101]) (by rintro rfl; exact absurd h (by decide +kernel))
  have f4 : (s.toList == [105, 49, 54, 108, 101]) = false := tl_no (a := #[105, 49, 54, 108, 101]) (by rintro rfl; exact absurd h (by decide +kernel))
  have f5 : (s.toList == [105, 49, 54, 98, 101]) = false := tl_no (a := #[105, 49, 54, 98, 101]) (by rintro rfl; exact absurd h (by decide +kernel))
  have f6 : (s.toList == [117, 51, 50, 108, 101]) = false := tl_no (a := #[117, 51, 50, 108, 101]) (by rintro rfl; exact absurd h (by decide +kernel))
  have f7 : (s.toList == [117, 51, 50, 98, 101]) = false := tl_no (a := #[117, 51, 50, 98, 101]) (by rintro rfl; exact absurd h (by decide +kernel))
  have f8 : (s.toList == [105, 51, 50, 108, 101]) = false := tl_no (a := #[105, 51, 50, 108, 101]) (by rintro rfl; exact absurd h (by decide +kernel))
  have f9 : (s.toList == [105, 51, 50, 98, 101]) = false := tl_no (a := #[105, 51, 50, 98, 101]) (by rintro rfl; exact absurd h (by decide +kernel))
  have f10 : (s.toList == [105, 54, 52, 108, 101]) = false := tl_no (a := #[105, 54, 52, 108, 101]) (by rintro rfl; exact absurd h (by decide +kernel))
  have f11 : (s.toList == [105, 54, 52, 98, 101]) = false := tl_no (a := #[105, 54, 52, 98, 101]) (by rintro rfl; exact absurd h (by decide +kernel))
  clear e h
  go_enter Tryz.func85, Tryz.ntmps85
  go_wp2_with fail
  (try simp only [Exit.inBlock, Exit.then])
  refine bodyPost_ret (results_tmp4 rfl _ _ _) rfl ?_
  exact ⟨rfl, Below.refl _ _⟩
/-- The contract of the program's kind. -/
theorem kind_any {s : ByteArray} (hs : Nob s) : KindC s := by
  by_cases h : isNumP s = true
  · rcases num_cases hs h with rfl | rfl | rfl | rfl | rfl | rfl | rfl | rfl | rfl | rfl | rfl | rfl
    · exact kind_u8
    · exact kind_i8
    · exact kind_u16le
    · exact kind_u16be
    · exact kind_i16le
    · exact kind_i16be
    · exact kind_u32le
    · exact kind_u32be
    · exact kind_i32le
    · exact kind_i32be
    · exact kind_i64le
    · exact kind_i64be
  · exact kind_no (by simpa using h)
/-- What the program's kept answers. -/
def keptV (s : ByteArray) : Bool := isNumP s || inside KEPT s
def KeptC (s : ByteArray) : Prop := ∀ W : World, Calls Tryz.prog 67 #[.string s] W fun e w' => e = .returned (.bool (keptV s)) ∧ Below W.heap.size W w'
set_option maxRecDepth 100000 in
theorem kept_num {s : ByteArray} (hs : Nob s) (h : isNumP s = true) : KeptC s := by
  intro W
  have e : keptV s = true := by unfold keptV; rw [h]; rfl
  have C := Lib.hid (kind_any hs W)
  rw [show kindV s = .tuple #[.int .i64 (numW s), .int .i64 (numO s), .bool (numS s), .bool true] from if_pos h] at C
  rw [e]
  generalize numW s = a1 at *
  generalize numO s = a2 at *
  generalize numS s = a3 at *
  clear e h hs
  go_enter Tryz.func67, Tryz.ntmps67
  go_wp2_with fail
  refine (C.out).mono ?_; rintro e w1 ⟨rfl, hb⟩
  have HB := Lib.hid hb
  clear hb
  go_wp2_with fail
  go_ret
  exact ⟨rfl, HB.out⟩
set_option maxRecDepth 100000 in
theorem kept_struct : KeptC ⟨#[115, 116, 114, 117, 99, 116]⟩ := by
  intro W
  have e : keptV ⟨#[115, 116, 114, 117, 99, 116]⟩ = true := by decide +kernel
  have C := Lib.hid (kind_no (s := ⟨#[115, 116, 114, 117, 99, 116]⟩) (by decide +kernel) W)
  rw [show kindV ⟨#[115, 116, 114, 117, 99, 116]⟩ = .tuple #[.int .i64 0, .int .i64 0, .bool false, .bool false] from if_neg (by decide +kernel)] at C
  rw [e]
  clear e
  go_enter Tryz.func67, Tryz.ntmps67
  go_wp2_with fail
  refine (C.out).mono ?_; rintro e w1 ⟨rfl, hb⟩
  have HB := Lib.hid hb
  clear hb
  go_wp2_with fail
  go_ret
  exact ⟨rfl, HB.out⟩
set_option maxRecDepth 100000 in
theorem kept_bytes : KeptC ⟨#[98, 121, 116, 101, 115]⟩ := by
  intro W
  have e : keptV ⟨#[98, 121, 116, 101, 115]⟩ = true := by decide +kernel
  have C := Lib.hid (kind_no (s := ⟨#[98, 121, 116, 101, 115]⟩) (by decide +kernel) W)
  rw [show kindV ⟨#[98, 121, 116, 101, 115]⟩ = .tuple #[.int .i64 0, .int .i64 0, .bool false, .bool false] from if_neg (by decide +kernel)] at C
  rw [e]
  clear e
  go_enter Tryz.func67, Tryz.ntmps67
  go_wp2_with fail
  refine (C.out).mono ?_; rintro e w1 ⟨rfl, hb⟩
  have HB := Lib.hid hb
  clear hb
  go_wp2_with fail
  go_ret
  exact ⟨rfl, HB.out⟩
set_option maxRecDepth 100000 in
theorem kept_when : KeptC ⟨#[119, 104, 101, 110]⟩ := by
  intro W
  have e : keptV ⟨#[119, 104, 101, 110]⟩ = true := by decide +kernel
  have C := Lib.hid (kind_no (s := ⟨#[119, 104, 101, 110]⟩) (by decide +kernel) W)
  rw [show kindV ⟨#[119, 104, 101, 110]⟩ = .tuple #[.int .i64 0, .int .i64 0, .bool false, .bool false] from if_neg (by decide +kernel)] at C
  rw [e]
  clear e
  go_enter Tryz.func67, Tryz.ntmps67
  go_wp2_with fail
  refine (C.out).mono ?_; rintro e w1 ⟨rfl, hb⟩
  have HB := Lib.hid hb
  clear hb
  go_wp2_with fail
  go_ret
  exact ⟨rfl, HB.out⟩
set_option maxRecDepth 100000 in
theorem kept_size : KeptC ⟨#[115, 105, 122, 101]⟩ := by
  intro W
  have e : keptV ⟨#[115, 105, 122, 101]⟩ = true := by decide +kernel
  have C := Lib.hid (kind_no (s := ⟨#[115, 105, 122, 101]⟩) (by decide +kernel) W)
  rw [show kindV ⟨#[115, 105, 122, 101]⟩ = .tuple #[.int .i64 0, .int .i64 0, .bool false, .bool false] from if_neg (by decide +kernel)] at C
  rw [e]
  clear e
  go_enter Tryz.func67, Tryz.ntmps67
  go_wp2_with fail
  refine (C.out).mono ?_; rintro e w1 ⟨rfl, hb⟩
  have HB := Lib.hid hb
  clear hb
  go_wp2_with fail
  go_ret
  exact ⟨rfl, HB.out⟩
set_option maxRecDepth 100000 in
theorem kept_count : KeptC ⟨#[99, 111, 117, 110, 116]⟩ := by
  intro W
  have e : keptV ⟨#[99, 111, 117, 110, 116]⟩ = true := by decide +kernel
  have C := Lib.hid (kind_no (s := ⟨#[99, 111, 117, 110, 116]⟩) (by decide +kernel) W)
  rw [show kindV ⟨#[99, 111, 117, 110, 116]⟩ = .tuple #[.int .i64 0, .int .i64 0, .bool false, .bool false] from if_neg (by decide +kernel)] at C
  rw [e]
  clear e
  go_enter Tryz.func67, Tryz.ntmps67
  go_wp2_with fail
  refine (C.out).mono ?_; rintro e w1 ⟨rfl, hb⟩
  have HB := Lib.hid hb
  clear hb
  go_wp2_with fail
  go_ret
  exact ⟨rfl, HB.out⟩
set_option maxRecDepth 100000 in
theorem kept_check : KeptC ⟨#[99, 104, 101, 99, 107]⟩ := by
  intro W
  have e : keptV ⟨#[99, 104, 101, 99, 107]⟩ = true := by decide +kernel
  have C := Lib.hid (kind_no (s := ⟨#[99, 104, 101, 99, 107]⟩) (by decide +kernel) W)
  rw [show kindV ⟨#[99, 104, 101, 99, 107]⟩ = .tuple #[.int .i64 0, .int .i64 0, .bool false, .bool false] from if_neg (by decide +kernel)] at C
  rw [e]
  clear e
  go_enter Tryz.func67, Tryz.ntmps67
  go_wp2_with fail
  refine (C.out).mono ?_; rintro e w1 ⟨rfl, hb⟩
  have HB := Lib.hid hb
  clear hb
  go_wp2_with fail
  go_ret
  exact ⟨rfl, HB.out⟩
set_option maxRecDepth 100000 in
theorem kept_no {s : ByteArray} (h : isNumP s = false) (h2 : inside KEPT s = false) : KeptC s := by
  intro W
  have e : keptV s = false := by unfold keptV; rw [h, h2]; rfl
  have C := Lib.hid (kind_no h W)
  rw [show kindV s = .tuple #[.int .i64 0, .int .i64 0, .bool false, .bool false] from if_neg (by rw [h]; decide)] at C
  rw [e]
  have f0 : (s.toList == [115, 116, 114, 117, 99, 116]) = false := tl_no (a := #[115, 116, 114, 117, 99, 116]) (by rintro rfl; exact absurd h2 (by decide +kernel))
  have f1 : (s.toList == [98, 121, 116, 101, 115]) = false := tl_no (a := #[98, 121, 116, 101, 115]) (by rintro rfl; exact absurd h2 (by decide +kernel))
  have f2 : (s.toList == [119, 104, 101, 110]) = false := tl_no (a := #[119, 104, 101, 110]) (by rintro rfl; exact absurd h2 (by decide +kernel))
  have f3 : (s.toList == [115, 105, 122, 101]) = false := tl_no (a := #[115, 105, 122, 101]) (by rintro rfl; exact absurd h2 (by decide +kernel))
  have f4 : (s.toList == [99, 111, 117, 110, 116]) = false := tl_no (a := #[99, 111, 117, 110, 116]) (by rintro rfl; exact absurd h2 (by decide +kernel))
  have f5 : (s.toList == [99, 104, 101, 99, 107]) = false := tl_no (a := #[99, 104, 101, 99, 107]) (by rintro rfl; exact absurd h2 (by decide +kernel))
  clear e h h2
  go_enter Tryz.func67, Tryz.ntmps67
  go_wp2_with fail
  refine (C.out).mono ?_; rintro e w1 ⟨rfl, hb⟩
  have HB := Lib.hid hb
  clear hb
  go_wp2_with fail
  go_ret
  exact ⟨rfl, HB.out⟩
/-- The contract of the program's kept. -/
theorem kept_any {s : ByteArray} (hs : Nob s) : KeptC s := by
  by_cases h : isNumP s = true
  · exact kept_num hs h
  · have h' : isNumP s = false := by simpa using h
    by_cases h2 : inside KEPT s = true
    · by_cases he : s = emp
      · subst he; exact kept_no h' (by decide +kernel)
      · rcases kept_cases hs he h2 with rfl | rfl | rfl | rfl | rfl | rfl
        · exact kept_struct
        · exact kept_bytes
        · exact kept_when
        · exact kept_size
        · exact kept_count
        · exact kept_check
    · exact kept_no h' (by simpa using h2)
end Go.Proofs.YtofmheeiplagjaaGreatDoor.Tm
namespace Go.Proofs.YtofmheeiplagjaaGreatDoor.Tm
open Go.RowKit Go.Proofs.YtofmheeiplagjaaGreatDoor.Lex Go.Proofs.YtofmheeiplagjaaGreatDoor.Dig
theorem nameF_bad {E : Nat} {σ : Ey} (hc : σ.c = 0) (h : noName (txt σ) = true) : nameF E σ = (txt σ, ⟨3, (pos E σ : Nat), σ.l⟩) := by
  unfold nameF
  rw [if_pos h, pass_stop (wrong_bad σ 3 (pos E σ : Nat) (by decide))]
  unfold wrong
  rw [if_pos hc]
theorem nameF_long {E : Nat} {σ : Ey} (hc : σ.c = 0) (h : noName (txt σ) = false) (h2 : 12 < (txt σ).size) : nameF E σ = (txt σ, ⟨4, (pos E σ : Nat), σ.l⟩) := by
  unfold nameF
  rw [if_neg (by rw [h]; decide), if_pos h2, pass_stop (wrong_bad σ 4 (pos E σ : Nat) (by decide))]
  unfold wrong
  rw [if_pos hc]
theorem nameF_good {E : Nat} {σ : Ey} (h : noName (txt σ) = false) (h2 : ¬ 12 < (txt σ).size) : nameF E σ = (txt σ, pass E σ) := by
  unfold nameF
  rw [if_neg (by rw [h]; decide), if_neg h2]
theorem noName_eq (s : ByteArray) : noName s = (!(isN s) || keptV s) := by unfold noName keptV; rw [Bool.or_assoc]
section
variable {G E : Nat} {lv : Value} {σ : Ey} {W : World}
set_option maxRecDepth 100000 in
set_option maxHeartbeats 2000000 in
/-- The contract of the program's name. -/
theorem nameP_any (h : RS G E lv σ W) (hA : AllT σ.l) : Calls Tryz.prog 46 #[.pointer (some ⟨G, 0, none⟩)] W (RdP G E (nameF E σ).2 (.returned (.string (nameF E σ).1)) W) := by
  have h0 := Lib.hid h
  have hok := h.ok
  have HN := Lib.hid (Lex.name_any (txt σ))
  have HK := Lib.hid (kept_any (txt_nob hA))
  have hnn := noName_eq (txt σ)
  have F1 := Lib.hid (fun q => nameF_bad (E := E) hok q)
  have F2 := Lib.hid (fun q1 q2 => nameF_long (E := E) hok q1 q2)
  have F3 := Lib.hid (fun q1 q2 => nameF_good (E := E) (σ := σ) q1 q2)
  obtain ⟨R, hR⟩ : ∃ R, nameF E σ = R := ⟨_, rfl⟩
  rw [hR] at F1 F2 F3 ⊢
  have HP := Lib.hid (fun (lv : Value) (w : World) (h : RS G E lv σ w) => Pass_any h)
  obtain ⟨s, hs⟩ : ∃ s, txt σ = s := ⟨_, rfl⟩
  have HS := Lib.hid hs
  rw [hs] at HN HK hnn F1 F2 F3 HP
  obtain ⟨kp, hkp⟩ : ∃ k, pos E σ = k := ⟨_, rfl⟩
  have HK2 := Lib.hid hkp
  rw [hkp] at F1 F2
  unfold KeptC at HK
  clear h hA hs hR hkp hok
  by_cases c1 : isN s = true
  · by_cases c2 : keptV s = true
    · have HR := Lib.hid (F1.out (by rw [hnn, c1, c2]; rfl))
      rw [c1] at HN
      rw [c2] at HK
      clear hnn F1 F2 F3 c1 c2 HP
      rw [HR.out]
      go_enter Tryz.func46, Tryz.ntmps46
      go_wp2_with fail
      refine (At_any h0.out).mono ?_; rintro e w1 ⟨rfl, hb⟩
      have h1 := Lib.hid (h0.out.below hb)
      have g1 := Lib.hid (gb_below (some G) hb)
      rw [HK2.out]
      clear hb
      go_wp2_with fail
      refine (Text_any h1.out).mono ?_; rintro e w2 ⟨rfl, hb⟩
      have g2 := Lib.hid (gb_trans g1.out (gb_below (some G) hb))
      rw [HS.out]
      clear hb
      go_wp2_with fail
      refine (HN.out _).mono ?_; rintro e wz ⟨rfl, rfl⟩
      go_wp2_with fail
      refine (HK.out _).mono ?_; rintro e w3 ⟨rfl, hb⟩
      have g3 := Lib.hid (gb_trans g2.out (gb_below (some G) hb))
      clear hb
      go_wp2_with fail
      refine (Fail_any _ _ _).mono ?_; rintro e w4 ⟨⟨b9, rfl, q0, q1⟩, hb⟩
      have HS2 := Lib.hid (gb_trans g3.out (gb_below (some G) hb))
      have T9 := Lib.hid (show LThr w4 (3, (kp : Nat)) _ from ⟨b9, rfl, q0, q1⟩)
      clear hb q0 q1
      go_wp2_with fail
      exact ⟨rfl, HS2.out, .inr ⟨show (3 : Int) ≠ 0 by decide, T9.out⟩⟩
    · have c2 : keptV s = false := by simpa using c2
      have hn0 : noName s = false := by rw [hnn, c1, c2]; rfl
      rw [c1] at HN
      rw [c2] at HK
      clear hnn F1 c1 c2
      by_cases c3 : 12 < s.size
      · have HR := Lib.hid (F2.out hn0 c3)
        have q3 : (12 : Int) < (s.size : Int) := by omega
        clear F2 F3 hn0 HP c3
        rw [HR.out]
        go_enter Tryz.func46, Tryz.ntmps46
        go_wp2_with fail
        refine (At_any h0.out).mono ?_; rintro e w1 ⟨rfl, hb⟩
        have h1 := Lib.hid (h0.out.below hb)
        have g1 := Lib.hid (gb_below (some G) hb)
        rw [HK2.out]
        clear hb
        go_wp2_with fail
        refine (Text_any h1.out).mono ?_; rintro e w2 ⟨rfl, hb⟩
        have g2 := Lib.hid (gb_trans g1.out (gb_below (some G) hb))
        rw [HS.out]
        clear hb
        go_wp2_with fail
        refine (HN.out _).mono ?_; rintro e wz ⟨rfl, rfl⟩
        go_wp2_with fail
        refine (HK.out _).mono ?_; rintro e w3 ⟨rfl, hb⟩
        have g3 := Lib.hid (gb_trans g2.out (gb_below (some G) hb))
        clear hb
        go_wp2_with fail
        refine (Fail_any _ _ _).mono ?_; rintro e w4 ⟨⟨b9, rfl, q0, q1⟩, hb⟩
        have HS2 := Lib.hid (gb_trans g3.out (gb_below (some G) hb))
        have T9 := Lib.hid (show LThr w4 (4, (kp : Nat)) _ from ⟨b9, rfl, q0, q1⟩)
        clear hb q0 q1
        go_wp2_with fail
        exact ⟨rfl, HS2.out, .inr ⟨show (4 : Int) ≠ 0 by decide, T9.out⟩⟩
      · have HR := Lib.hid (F3.out hn0 c3)
        have q3 : ¬ (12 : Int) < (s.size : Int) := by omega
        clear F2 F3 hn0 c3
        rw [HR.out]
        obtain ⟨τ, hτ⟩ : ∃ τ, pass E σ = τ := ⟨_, rfl⟩
        rw [hτ] at HP
        have HR := Lib.hid (show R = (s, τ) by rw [← hτ]; exact HR.out)
        rw [hτ]
        clear hτ
        go_enter Tryz.func46, Tryz.ntmps46
        go_wp2_with fail
        refine (At_any h0.out).mono ?_; rintro e w1 ⟨rfl, hb⟩
        have h1 := Lib.hid (h0.out.below hb)
        have g1 := Lib.hid (gb_below (some G) hb)
        clear hb
        go_wp2_with fail
        refine (Text_any h1.out).mono ?_; rintro e w2 ⟨rfl, hb⟩
        have h2 := Lib.hid (h1.out.below hb)
        have g2 := Lib.hid (gb_trans g1.out (gb_below (some G) hb))
        rw [HS.out]
        clear hb
        go_wp2_with fail
        refine (HN.out _).mono ?_; rintro e wz ⟨rfl, rfl⟩
        go_wp2_with fail
        refine (HK.out _).mono ?_; rintro e w3 ⟨rfl, hb⟩
        have h3 := Lib.hid (h2.out.below hb)
        have g3 := Lib.hid (gb_trans g2.out (gb_below (some G) hb))
        clear hb
        go_wp2_with fail
        refine (HP.out _ _ h3.out).mono ?_; rintro e w4 ⟨hg, ⟨rfl, lv4, hr⟩ | ⟨hc, hth⟩⟩
        · have HG := Lib.hid (gb_trans g3.out hg)
          have HR4 := Lib.hid hr
          clear hg hr
          go_wp2_with fail
          go_ret
          exact ⟨HG.out, .inl ⟨rfl, lv4, HR4.out⟩⟩
        · have HG := Lib.hid (gb_trans g3.out hg)
          have T9 := Lib.hid hth
          have C9 := Lib.hid hc
          obtain ⟨b9, rfl, q0, q1⟩ := hth
          clear hg hc q0 q1
          go_wp2_with fail
          exact ⟨rfl, HG.out, .inr ⟨C9.out, T9.out⟩⟩
  · have c1 : isN s = false := by simpa using c1
    have HR := Lib.hid (F1.out (by rw [hnn, c1]; rfl))
    rw [c1] at HN
    clear hnn F1 F2 F3 c1 HP HK
    rw [HR.out]
    go_enter Tryz.func46, Tryz.ntmps46
    go_wp2_with fail
    refine (At_any h0.out).mono ?_; rintro e w1 ⟨rfl, hb⟩
    have h1 := Lib.hid (h0.out.below hb)
    have g1 := Lib.hid (gb_below (some G) hb)
    rw [HK2.out]
    clear hb
    go_wp2_with fail
    refine (Text_any h1.out).mono ?_; rintro e w2 ⟨rfl, hb⟩
    have g2 := Lib.hid (gb_trans g1.out (gb_below (some G) hb))
    rw [HS.out]
    clear hb
    go_wp2_with fail
    refine (HN.out _).mono ?_; rintro e wz ⟨rfl, rfl⟩
    go_wp2_with fail
    refine (Fail_any _ _ _).mono ?_; rintro e w4 ⟨⟨b9, rfl, q0, q1⟩, hb⟩
    have HS2 := Lib.hid (gb_trans g2.out (gb_below (some G) hb))
    have T9 := Lib.hid (show LThr w4 (3, (kp : Nat)) _ from ⟨b9, rfl, q0, q1⟩)
    clear hb q0 q1
    go_wp2_with fail
    exact ⟨rfl, HS2.out, .inr ⟨show (3 : Int) ≠ 0 by decide, T9.out⟩⟩
end
/-- The memory of an item that the program reads: the reader, its box X, the box R of what is returned. -/
structure IZ (W : World) (G E R X : Nat) (lv : Value) (τ : Ey) (vs : List Value) (w : World) : Prop where
  rs : RS G E lv τ w
  gb : W.grownBy w (some G)
  bx : IB w X vs
  rx : IB w R zero13
  hX : W.heap.size ≤ X
  hR : W.heap.size ≤ R
  ne : R ≠ X
  hG : G < W.heap.size
theorem IZ.step {W : World} {G E R X : Nat} {lv lv' : Value} {τ τ' : Ey} {vs : List Value} {w w' : World} (h : IZ W G E R X lv τ vs w) (hg : w.grownBy w' (some G)) (hr : RS G E lv' τ' w') : IZ W G E R X lv' τ' vs w' := by
  have hrx := h.rx
  have a := h.hG
  have b := h.hX
  have c := h.hR
  exact ⟨hr, gb_trans h.gb hg, h.bx.grown hg (by omega), hrx.grown hg (by omega), b, c, h.ne, a⟩
theorem IZ.below {W : World} {G E R X : Nat} {lv : Value} {τ : Ey} {vs : List Value} {w w' : World} (h : IZ W G E R X lv τ vs w) (hb : Below w.heap.size w w') : IZ W G E R X lv τ vs w' :=
  h.step (gb_below (some G) hb) (h.rs.below hb)
theorem rs_other {G E X j : Nat} {lv v : Value} {σ : Ey} {w : World} (h : RS G E lv σ w) (hX : G < X) : RS G E lv σ (w.setCell ⟨X, j, none⟩ v) := by
  have e : (w.setCell ⟨X, j, none⟩ v).heap[G]? = w.heap[G]? := Below.heap_setCell _ _ _ _ (show G ≠ X by omega)
  refine ⟨h.ok, (World.cell?_of_block (a := ⟨G, 0, none⟩) e).trans h.c0, (World.cell?_of_block (a := ⟨G, 1, none⟩) e).trans h.c1, fun j => (World.frozen?_of_block (a := ⟨G, j, none⟩) e).trans (h.fz j), ?_, h.nb, ?_⟩
  · refine tks_kept h.tk fun hl k hk => Below.heap_setCell _ _ _ _ (show k ≠ X by have := h.nb hl k hk; omega)
  · simpa [World.setCell] using h.lt
theorem IZ.set {W : World} {G E R X : Nat} {lv : Value} {τ : Ey} {vs : List Value} {w : World} (h : IZ W G E R X lv τ vs w) (j : Nat) (v : Value) : IZ W G E R X lv τ (vs.set j v) (w.setCell ⟨X, j, none⟩ v) := by
  have hrx := h.rx
  have a := h.hG
  have b := h.hX
  exact ⟨rs_other h.rs (by omega), gb_set_new h.gb b, h.bx.set j v, hrx.setOther h.ne, b, h.hR, h.ne, a⟩
/-- What the return's store leaves. -/
structure RZ (W : World) (G E R : Nat) (lv : Value) (τ : Ey) (vs : List Value) (w0 w : World) : Prop where
  rs : RS G E lv τ w
  gb : W.grownBy w (some G)
  rx : IB w R vs
  hG : G < W.heap.size
  hR : W.heap.size ≤ R
  size : w.heap.size = w0.heap.size
  keep : ∀ k, k ≠ R → w.heap[k]? = w0.heap[k]?
theorem IZ.rz {W : World} {G E R X : Nat} {lv : Value} {τ : Ey} {vs : List Value} {w : World} (h : IZ W G E R X lv τ vs w) : RZ W G E R lv τ zero13 w w :=
  ⟨h.rs, h.gb, h.rx, h.hG, h.hR, rfl, fun _ _ => rfl⟩
theorem RZ.set {W : World} {G E R : Nat} {lv : Value} {τ : Ey} {rs : List Value} {w0 w : World} (h : RZ W G E R lv τ rs w0 w) (j : Nat) (v : Value) : RZ W G E R lv τ (rs.set j v) w0 (w.setCell ⟨R, j, none⟩ v) :=
  ⟨rs_other h.rs (by have := h.hG; have := h.hR; omega), gb_set_new h.gb h.hR, h.rx.set j v, h.hG, h.hR, by rw [← h.size]; simp [World.setCell], fun k hk => (Below.heap_setCell _ _ _ _ hk).trans (h.keep k hk)⟩
theorem RZ.itF {W : World} {G E R X : Nat} {lv : Value} {τ : Ey} {rs : List Value} {w8 w9 : World} (Q : RZ W G E R lv τ rs w8 w9) (hX : R ≤ X) {x : It} {cv iv : Value} (h : ItF (X + 1) w8 x cv iv) : ItF R w9 x cv iv :=
  fun w2 hk => h w2 fun k h1 h2 => (hk k (by omega) (by rw [Q.size]; exact h2)).trans (Q.keep k (by omega))
/-! ### rule -/
def ruZ4 (x : It) (f : ByteArray) (g : ByteArray × Ey) : It × Ey := (x.ruled 3 f g.1, g.2)
def ruZ3 (E : Nat) (x : It) (ru : Int) (f : ByteArray × Ey) : It × Ey :=
  if ru = 3 then (if txt f.2 = ⟨#[59]⟩ then (x.ruled 3 f.1 f.1, f.2) else ruZ4 x f.1 (nameF E f.2)) else (x.ruled ru f.1 ⟨#[]⟩, f.2)
def ruZ2 (E : Nat) (x : It) (ru : Int) (τ : Ey) : It × Ey := ruZ3 E x ru (nameF E τ)
def ruleZ (E : Nat) (x : It) (τ : Ey) : It × Ey := ruZ2 E x (ruOf (txt τ)) (if ruOf (txt τ) = 0 then wrong (pass E τ) 3 (pos E τ : Nat) else pass E τ)
theorem ru3_eq (E : Nat) (x : It) (ru : Int) (f : ByteArray × Ey) : rule3F E x ru f = endF E (ruZ3 E x ru f) := by
  unfold rule3F ruZ3
  by_cases h : ru = 3
  · rw [if_pos h, if_pos h]
    by_cases h2 : txt f.2 = ⟨#[59]⟩
    · rw [if_pos h2, if_pos h2]
    · rw [if_neg h2, if_neg h2]; rfl
  · rw [if_neg h, if_neg h]
theorem ruleF_eq (E : Nat) (x : It) (τ : Ey) : ruleF E x τ true = endF E (ruleZ E x τ) := ru3_eq E x _ _
theorem nameF_stop {E : Nat} {σ : Ey} (h : σ.c ≠ 0) : (nameF E σ).2 = σ := (name_0 E σ).2.2 h
theorem ruZ3_stop {E : Nat} {x : It} {ru : Int} {f : ByteArray × Ey} (h : f.2.c ≠ 0) : (ruZ3 E x ru f).2 = f.2 := by
  unfold ruZ3
  split
  · split
    · rfl
    · exact nameF_stop h
  · rfl
theorem ruZ2_stop {E : Nat} {x : It} {ru : Int} {τ : Ey} (h : τ.c ≠ 0) : (ruZ2 E x ru τ).2 = τ := by
  have e := nameF_stop (E := E) h
  have h' : (nameF E τ).2.c ≠ 0 := by rw [e]; exact h
  exact (ruZ3_stop h').trans e
def RuP (W : World) (G E R X : Nat) (cv iv : Value) (J : It × Ey) (e : Ending) (w' : World) : Prop :=
  W.grownBy w' (some G) ∧ ((e = .returned (.tuple #[]) ∧ ∃ lv', IZ W G E R X lv' J.2 (itVals J.1 cv iv) w') ∨ (J.2.c ≠ 0 ∧ LThr w' (J.2.c, J.2.a) e))
section
variable {G E R X : Nat} {lv : Value} {τ : Ey} {W w : World} {kd : Int} {k : Nat} {nm tp : ByteArray} {wd od : Int} {sg mn : Bool} {ct : Option Ex} {its : List It} {cv iv : Value}
set_option maxRecDepth 100000 in
set_option maxHeartbeats 4000000 in
theorem rule_any (S : IZ W G E R X lv τ (itVals (.mk kd k nm tp wd od sg mn ct 0 ⟨#[]⟩ ⟨#[]⟩ its) cv iv) w) (hA : AllT τ.l) :
    Calls Tryz.prog 86 #[.pointer (some ⟨G, 0, none⟩), .pointer (some ⟨X, 0, none⟩)] w (RuP W G E R X cv iv (ruleZ E (.mk kd k nm tp wd od sg mn ct 0 ⟨#[]⟩ ⟨#[]⟩ its) τ)) := by
  have S0 := Lib.hid S
  have HA := Lib.hid hA
  obtain ⟨J, hJ⟩ : ∃ J, ruleZ E (.mk kd k nm tp wd od sg mn ct 0 ⟨#[]⟩ ⟨#[]⟩ its) τ = J := ⟨_, rfl⟩
  rw [hJ]
  have HJ := Lib.hid (show J = ruZ2 E (.mk kd k nm tp wd od sg mn ct 0 ⟨#[]⟩ ⟨#[]⟩ its) (ruOf (txt τ)) (if ruOf (txt τ) = 0 then wrong (pass E τ) 3 (pos E τ : Nat) else pass E τ) from hJ.symm)
  have hok := S.rs.ok
  clear S hA hJ
  go_enter Tryz.func86, Tryz.ntmps86
  go_wp2_with fail
  refine (At_any S0.out.rs).mono ?_; rintro e w1 ⟨rfl, hb⟩
  have S1 := Lib.hid (S0.out.below hb)
  obtain ⟨kp, hkp⟩ : ∃ k, pos E τ = k := ⟨_, rfl⟩
  rw [hkp] at HJ ⊢
  clear hb S0
  go_wp2_with fail
  refine (Pass_any S1.out.rs).mono ?_; rintro e w2 ⟨hg, ⟨rfl, lv2, hr⟩ | ⟨hc, hth⟩⟩
  · have S2 := Lib.hid (S1.out.step hg hr)
    have A2 := Lib.hid ((pass_0 E τ).1 HA.out)
    have hok2 := hr.ok
    generalize pass E τ = τ2 at *
    obtain ⟨s, hs⟩ : ∃ s, txt τ = s := ⟨_, rfl⟩
    rw [hs] at HJ ⊢
    clear hg hr S1 hs hkp HA
    have y9 : w2.cell? ⟨X, 9, none⟩ = some (.int .i64 0) := S2.out.bx.cell 9
    have f9 := S2.out.bx.free 9
    go_upto_block 0 with fail
    go_cut [] (fun wx => ∃ (lv : Value) (ru : Int), Hid (IZ W G E R X lv τ2 (itVals (.mk kd k nm tp wd od sg mn ct ru ⟨#[]⟩ ⟨#[]⟩ its) cv iv) wx) ∧ Hid (J = ruZ2 E (.mk kd k nm tp wd od sg mn ct 0 ⟨#[]⟩ ⟨#[]⟩ its) ru τ2))
    case first =>
      by_cases c1 : s = ⟨#[115, 105, 122, 101]⟩
      · have e1 : (s.toList == [115, 105, 122, 101]) = true := tl_yes (a := #[115, 105, 122, 101]) c1
        have ruv : ruOf s = 1 := by rw [c1]; decide
        have HJ := Lib.hid (show J = ruZ2 E (.mk kd k nm tp wd od sg mn ct 0 ⟨#[]⟩ ⟨#[]⟩ its) 1 τ2 by have q := HJ.out; rw [ruv, if_neg (by decide)] at q; exact q)
        clear c1 ruv
        go_wp2_with fail
        have S3 := Lib.hid (S2.out.set 9 (.int .i64 1))
        go_meet
        exact ⟨lv2, 1, S3, HJ⟩
      · have e1 : (s.toList == [115, 105, 122, 101]) = false := tl_no (a := #[115, 105, 122, 101]) c1
        have N1 := Lib.hid c1
        clear c1
        by_cases c2 : s = ⟨#[99, 111, 117, 110, 116]⟩
        · have e2 : (s.toList == [99, 111, 117, 110, 116]) = true := tl_yes (a := #[99, 111, 117, 110, 116]) c2
          have ruv : ruOf s = 2 := by rw [c2]; decide
          have HJ := Lib.hid (show J = ruZ2 E (.mk kd k nm tp wd od sg mn ct 0 ⟨#[]⟩ ⟨#[]⟩ its) 2 τ2 by have q := HJ.out; rw [ruv, if_neg (by decide)] at q; exact q)
          clear c2 ruv
          go_wp2_with fail
          have S3 := Lib.hid (S2.out.set 9 (.int .i64 2))
          go_meet
          exact ⟨lv2, 2, S3, HJ⟩
        · have e2 : (s.toList == [99, 111, 117, 110, 116]) = false := tl_no (a := #[99, 111, 117, 110, 116]) c2
          have N2 := Lib.hid c2
          clear c2
          by_cases c3 : s = ⟨#[99, 104, 101, 99, 107]⟩
          · have e3 : (s.toList == [99, 104, 101, 99, 107]) = true := tl_yes (a := #[99, 104, 101, 99, 107]) c3
            have ruv : ruOf s = 3 := by rw [c3]; decide
            have HJ := Lib.hid (show J = ruZ2 E (.mk kd k nm tp wd od sg mn ct 0 ⟨#[]⟩ ⟨#[]⟩ its) 3 τ2 by have q := HJ.out; rw [ruv, if_neg (by decide)] at q; exact q)
            clear c3 ruv
            go_wp2_with fail
            have S3 := Lib.hid (S2.out.set 9 (.int .i64 3))
            go_meet
            exact ⟨lv2, 3, S3, HJ⟩
          · have e3 : (s.toList == [99, 104, 101, 99, 107]) = false := tl_no (a := #[99, 104, 101, 99, 107]) c3
            have ruv : ruOf s = 0 := by unfold ruOf; rw [if_neg N1.out, if_neg N2.out, if_neg c3]
            have hw : (wrong τ2 3 (kp : Nat)) = ⟨3, (kp : Nat), τ2.l⟩ := if_pos hok2
            have HJ := Lib.hid (show J.2 = ⟨3, (kp : Nat), τ2.l⟩ by
              have q := HJ.out
              rw [ruv, if_pos rfl, hw] at q
              rw [q]
              exact ruZ2_stop (show (3 : Int) ≠ 0 by decide))
            clear c3 ruv hw
            go_wp2_with fail
            refine (Fail_any _ _ _).mono ?_; rintro e w4 ⟨⟨b9, rfl, q0, q1⟩, hb⟩
            have HS2 := Lib.hid (gb_trans S2.out.gb (gb_below (some G) hb))
            have T9 := Lib.hid (show LThr w4 (3, (kp : Nat)) _ from ⟨b9, rfl, q0, q1⟩)
            clear hb q0 q1
            go_wp2_with fail
            refine ⟨rfl, HS2.out, .inr ?_⟩
            rw [HJ.out]
            exact ⟨show (3 : Int) ≠ 0 by decide, T9.out⟩
    case rest =>
      clear S2 HJ y9 f9
      obtain ⟨lv3, ru, S3, J3⟩ := hcut
      have HJ := Lib.hid (show J = ruZ3 E (.mk kd k nm tp wd od sg mn ct 0 ⟨#[]⟩ ⟨#[]⟩ its) ru (nameF E τ2) from J3.out)
      clear J3
      go_wp2_with fail
      refine (nameP_any S3.out.rs A2.out).mono ?_; rintro e w4 ⟨hg, ⟨rfl, lv4, hr⟩ | ⟨hc, hth⟩⟩
      · have S4 := Lib.hid (S3.out.step hg hr)
        have A4 := Lib.hid ((name_0 E τ2).1 A2.out)
        generalize nameF E τ2 = r4 at *
        obtain ⟨n4, τ4⟩ := r4
        simp only at S4 A4
        clear hg hr S3
        have y10 : w4.cell? ⟨X, 10, none⟩ = some (.string ⟨#[]⟩) := S4.out.bx.cell 10
        have f10 := S4.out.bx.free 10
        go_upto_region 10 with fail
        have S5 := Lib.hid (S4.out.set 10 (.string n4))
        clear S4 y10 f10
        generalize w4.setCell ⟨X, 10, none⟩ (.string n4) = w5 at *
        have y9 : w5.cell? ⟨X, 9, none⟩ = some (.int .i64 ru) := S5.out.bx.cell 9
        by_cases h3 : ru = 3
        · subst h3
          have HJ := Lib.hid (show J = if txt τ4 = ⟨#[59]⟩ then ((.mk kd k nm tp wd od sg mn ct 3 n4 n4 its : It), τ4) else ruZ4 (.mk kd k nm tp wd od sg mn ct 0 ⟨#[]⟩ ⟨#[]⟩ its) n4 (nameF E τ4) from HJ.out.trans (if_pos rfl))
          have y10 : w5.cell? ⟨X, 10, none⟩ = some (.string n4) := S5.out.bx.cell 10
          have y11 : w5.cell? ⟨X, 11, none⟩ = some (.string ⟨#[]⟩) := S5.out.bx.cell 11
          have f11 := S5.out.bx.free 11
          go_upto_region 12 with fail
          have S6 := Lib.hid (S5.out.set 11 (.string n4))
          clear S5 y9 y10 y11 f11
          generalize w5.setCell ⟨X, 11, none⟩ (.string n4) = w6 at *
          go_wp2_with fail
          refine (Text_any S6.out.rs).mono ?_; rintro e w7 ⟨rfl, hb⟩
          have S7 := Lib.hid (S6.out.below hb)
          obtain ⟨st, hst⟩ : ∃ st, txt τ4 = st := ⟨_, rfl⟩
          rw [hst] at HJ ⊢
          clear hb S6 hst
          by_cases c5 : st = ⟨#[59]⟩
          · have e5 : (st.toList == [59]) = true := tl_yes (a := #[59]) c5
            have HJ := Lib.hid (HJ.out.trans (if_pos c5))
            clear c5
            go_wp2_with fail
            go_end0
            refine ⟨S7.out.gb, .inl ⟨rfl, lv4, ?_⟩⟩
            rw [HJ.out]
            exact S7.out
          · have e5 : (st.toList == [59]) = false := tl_no (a := #[59]) c5
            have HJ := Lib.hid (HJ.out.trans (if_neg c5))
            clear c5
            go_wp2_with fail
            refine (nameP_any S7.out.rs A4.out).mono ?_; rintro e w8 ⟨hg, ⟨rfl, lv8, hr⟩ | ⟨hc, hth⟩⟩
            · have S8 := Lib.hid (S7.out.step hg hr)
              generalize nameF E τ4 = r8 at *
              obtain ⟨n8, τ8⟩ := r8
              simp only at S8
              clear hg hr S7
              have y11 : w8.cell? ⟨X, 11, none⟩ = some (.string n4) := S8.out.bx.cell 11
              have f11 := S8.out.bx.free 11
              have S9 := Lib.hid (S8.out.set 11 (.string n8))
              clear S8
              go_wp2_with fail
              go_end0
              refine ⟨S9.out.gb, .inl ⟨rfl, lv8, ?_⟩⟩
              rw [HJ.out]
              exact S9.out
            · have HG := Lib.hid (gb_trans S7.out.gb hg)
              have T9 := Lib.hid hth
              have C9 := Lib.hid hc
              obtain ⟨b9, rfl, q0, q1⟩ := hth
              clear hg hc q0 q1
              go_wp2_with fail
              refine ⟨rfl, HG.out, .inr ?_⟩
              rw [HJ.out]
              exact ⟨C9.out, T9.out⟩
        · have h3' : (ru == 3) = false := by simpa using h3
          have HJ := Lib.hid (show J = ((.mk kd k nm tp wd od sg mn ct ru n4 ⟨#[]⟩ its : It), τ4) from HJ.out.trans (if_neg h3))
          go_wp2_with fail
          go_end0
          refine ⟨S5.out.gb, .inl ⟨rfl, lv4, ?_⟩⟩
          rw [HJ.out]
          exact S5.out
      · have HG := Lib.hid (gb_trans S3.out.gb hg)
        have T9 := Lib.hid hth
        have C9 := Lib.hid hc
        obtain ⟨b9, rfl, q0, q1⟩ := hth
        clear hg hc q0 q1
        go_wp2_with fail
        refine ⟨rfl, HG.out, .inr ?_⟩
        rw [HJ.out, ruZ3_stop C9.out]
        exact ⟨C9.out, T9.out⟩
  · have HG := Lib.hid (gb_trans S1.out.gb hg)
    have HJ := Lib.hid (show J.2 = pass E τ by
      rw [HJ.out]
      split
      · rw [wrong_stop hc]; exact ruZ2_stop hc
      · exact ruZ2_stop hc)
    have T9 := Lib.hid hth
    have C9 := Lib.hid hc
    obtain ⟨b9, rfl, q0, q1⟩ := hth
    clear hg hc q0 q1
    go_wp2_with fail
    refine ⟨rfl, HG.out, .inr ?_⟩
    rw [HJ.out]
    exact ⟨C9.out, T9.out⟩
end
end Go.Proofs.YtofmheeiplagjaaGreatDoor.Tm
namespace Go.Proofs.YtofmheeiplagjaaGreatDoor.Tm
open Go.RowKit Go.Proofs.YtofmheeiplagjaaGreatDoor.Lex Go.Proofs.YtofmheeiplagjaaGreatDoor.Dig
theorem endF_0 (E : Nat) (h : It × Ey) : Tm0 h.2 (endF E h).2 := must_0 _ _ _
theorem ruZ2_0 (E : Nat) (x : It) (ru : Int) (τ : Ey) : Tm0 τ (ruZ2 E x ru τ).2 := by
  show Tm0 τ (ruZ3 E x ru (nameF E τ)).2
  unfold ruZ3
  split
  · split
    · exact name_0 E τ
    · exact (name_0 E τ).trans (name_0 E _)
  · exact name_0 E τ
theorem ruleZ_0 (E : Nat) (x : It) (τ : Ey) : Tm0 τ (ruleZ E x τ).2 := by
  unfold ruleZ
  refine Tm0.trans ?_ (ruZ2_0 _ _ _ _)
  split
  · exact (pass_0 E τ).trans (wrong_0 _ _ _)
  · exact pass_0 E τ
theorem tail_0 (E : Nat) (h : It × Ey) : Tm0 h.2 (tailF E h).2 := by
  unfold tailF
  split
  · exact (brack_0 E _ h.2).trans (must_0 _ _ _)
  · split
    · refine (take_0 E h.2 ⟨#[61]⟩).trans ?_
      cases decide (txt h.2 = ⟨#[61]⟩) with
      | false => exact must_0 _ _ _
      | true =>
        rw [ruleF_eq]
        exact (ruleZ_0 E h.1 _).trans (must_0 _ _ _)
    · exact must_0 _ _ _
theorem head_0 (E k : Nat) (σ : Ey) : Tm0 σ (headF E k σ).2 := by
  unfold headF
  split
  · exact (pass_0 E σ).trans ((name_0 E _).trans (brack_0 E _ _))
  · split
    · exact (pass_0 E σ).trans (name_0 E _)
    · exact (name_0 E σ).trans (name_0 E _)
theorem item_0 {E : Nat} {B : Nat → Ey → List It × Ey} (hB : ∀ d τ, Tm0 τ (B d τ).2) (deep : Nat) (σ : Ey) : Tm0 σ (itemF E B deep σ).2 := by
  unfold itemF itemK
  split
  · exact (pass_0 E σ).trans ((expr_0 E _ 1 0 _).trans (hB _ _))
  · exact (head_0 E _ σ).trans (tail_0 E _)
theorem open_0 (E deep : Nat) (σ : Ey) : Tm0 σ (openF E deep σ) := ite_0 (wrong_0 _ _ _)
theorem bloop_0 {E : Nat} {I : Ey → It × Ey} (hI : ∀ τ, Tm0 τ (I τ).2) : ∀ (m : Nat) (l : List It) (τ : Ey), Tm0 τ (bloopF E I m l τ).2 := by
  intro m
  induction m with
  | zero => intro l τ; exact Tm0.refl τ
  | succ m ih =>
    intro l τ
    unfold bloopF
    split
    · exact Tm0.refl τ
    · split
      · exact take_0 _ _ _
      · split
        · exact wrong_0 _ _ _
        · exact (hI τ).trans (ih _ _)
theorem block_0 {E : Nat} {I : Ey → It × Ey} (hI : ∀ τ, Tm0 τ (I τ).2) (deep : Nat) (σ : Ey) : Tm0 σ (blockF E I deep σ).2 :=
  ((open_0 E deep σ).trans (must_0 _ _ _)).trans (bloop_0 hI _ _ _)
theorem blk_0 : ∀ (n E deep : Nat) (σ : Ey), Tm0 σ (blkF n E deep σ).2
  | 0, _, deep, σ => block_0 (fun τ => Tm0.refl τ) deep σ
  | n + 1, E, deep, σ => block_0 (fun τ => item_0 (fun d τ => blk_0 n E d τ) deep τ) deep σ
theorem ruZ3_rest (E : Nat) (x : It) (ru : Int) (f : ByteArray × Ey) : (ruZ3 E x ru f).1.count = x.count ∧ (ruZ3 E x ru f).1.items = x.items := by
  have h : ∀ r f l, (x.ruled r f l).count = x.count ∧ (x.ruled r f l).items = x.items := by
    intro r f l
    cases x
    exact ⟨rfl, rfl⟩
  unfold ruZ3
  split
  · split
    · exact h _ _ _
    · exact h _ _ _
  · exact h _ _ _
theorem ruleZ_rest (E : Nat) (x : It) (τ : Ey) : (ruleZ E x τ).1.count = x.count ∧ (ruleZ E x τ).1.items = x.items := ruZ3_rest _ _ _ _
/-- What the program's item does. -/
def IqP (J : It × Ey) (G E : Nat) (W : World) (e : Ending) (w' : World) : Prop :=
  W.grownBy w' (some G) ∧ ((∃ p iv lv', e = .returned (.agg (itVals J.1 (.pointer p) iv).toArray) ∧ RS G E lv' J.2 w' ∧ (∃ a m c, iv = .slice a m c) ∧ ItF W.heap.size w' J.1 (.pointer p) iv) ∨ (J.2.c ≠ 0 ∧ LThr w' (J.2.c, J.2.a) e))
def BqP (J : List It × Ey) (G E : Nat) (W : World) (e : Ending) (w' : World) : Prop :=
  W.grownBy w' (some G) ∧ ((∃ v lv', e = .returned v ∧ RS G E lv' J.2 w' ∧ (∃ a m c, v = .slice a m c) ∧ J.1.length ≤ 16 ∧ ItsF W.heap.size w' J.1 v) ∨ (J.2.c ≠ 0 ∧ LThr w' (J.2.c, J.2.a) e))
/-- What is asked. -/
structure Prq (B G E : Nat) (lv : Value) (σ : Ey) (W : World) : Prop where
  rs : RS G E lv σ W
  lh : LH B W
  bg : B ≤ G
  at_ : AllT σ.l
  hE : E ≤ 4000
def BqC (n : Nat) (Bf : Nat → Nat → Ey → List It × Ey) : Prop := ∀ (B G E : Nat) (lv : Value) (σ : Ey) (W : World) (deep : Nat), Prq B G E lv σ W → deep ≤ 9 → σ.l.length < n →
  Calls Tryz.prog 47 #[.pointer (some ⟨G, 0, none⟩), .int .i64 (deep : Nat)] W (BqP (Bf E deep σ) G E W)
def headZ (E k : Nat) (kd : Int) (tp : ByteArray) (wd od : Int) (sg : Bool) (n : ByteArray × Ey) : It × Ey :=
  if kd = 2 then headB E k n else (.mk kd k n.1 tp wd od sg false none 0 ⟨#[]⟩ ⟨#[]⟩ [], n.2)
theorem headZ_0 (E k : Nat) (kd : Int) (tp : ByteArray) (wd od : Int) (sg : Bool) (n : ByteArray × Ey) : Tm0 n.2 (headZ E k kd tp wd od sg n).2 := by
  unfold headZ
  split
  · exact brack_0 _ _ _
  · exact Tm0.refl _
theorem tz_stop {E k : Nat} {kd : Int} {tp : ByteArray} {wd od : Int} {sg : Bool} {n : ByteArray × Ey} (h : n.2.c ≠ 0) : (tailF E (headZ E k kd tp wd od sg n)).2 = n.2 := by
  have e := (headZ_0 E k kd tp wd od sg n).2.2 h
  rw [(tail_0 E _).2.2 (by rw [e]; exact h), e]
def HdZ (J : It × Ey) (σ : Ey) (W : World) (G E X k : Nat) (wx : World) : Prop := ∃ (lv : Value) (τ : Ey) (kd : Int) (tp : ByteArray) (wd od : Int) (sg : Bool), Hid (IZ W G E W.heap.size X lv τ (itVals (.mk kd k ⟨#[]⟩ tp wd od sg false none 0 ⟨#[]⟩ ⟨#[]⟩ []) (.pointer none) (.slice none 0 0)) wx) ∧ Hid (Tm0 σ τ) ∧ (kd = 1 ∨ kd = 2 ∨ kd = 3) ∧ Hid (kd = 2 → tp = ⟨#[]⟩ ∧ wd = 0 ∧ od = 0 ∧ sg = false) ∧ Hid (J = tailF E (headZ E k kd tp wd od sg (nameF E τ)))
def TlZ (J : It × Ey) (σ : Ey) (W : World) (G E X : Nat) (wx : World) : Prop := ∃ (lv : Value) (τ : Ey) (x : It) (p : Option Addr), Hid (IZ W G E W.heap.size X lv τ (itVals x (.pointer p) (.slice none 0 0)) wx) ∧ Hid (Tm0 σ τ) ∧ Hid (Fw (X + 1) wx fun w2 => CtAt w2 x.count (.pointer p)) ∧ Hid (x.items = []) ∧ Hid (J = endF E (x, τ))
set_option maxRecDepth 100000 in
theorem itemP_results (tmps : Array Value) (w : World) (R : Nat) (v0 v1 v2 v3 v4 v5 v6 v7 v8 v9 v10 v11 v12 : Value) (h4 : tmps.getD 4 undef = .pointer (some ⟨R, 0, none⟩)) (hb : IB w R [v0, v1, v2, v3, v4, v5, v6, v7, v8, v9, v10, v11, v12]) :
    (results Tryz.f69 tmps).run Tryz.prog w = .ok (.agg #[v0, v1, v2, v3, v4, v5, v6, v7, v8, v9, v10, v11, v12]) w := by
  have h4' : tmps[4]?.getD undef = .pointer (some ⟨R, 0, none⟩) := by simpa using h4
  have c0 : w.cell? ⟨R, 0, none⟩ = some v0 := hb.cell 0
  have c1 : w.cell? ⟨R, 1, none⟩ = some v1 := hb.cell 1
  have c2 : w.cell? ⟨R, 2, none⟩ = some v2 := hb.cell 2
  have c3 : w.cell? ⟨R, 3, none⟩ = some v3 := hb.cell 3
  have c4 : w.cell? ⟨R, 4, none⟩ = some v4 := hb.cell 4
  have c5 : w.cell? ⟨R, 5, none⟩ = some v5 := hb.cell 5
  have c6 : w.cell? ⟨R, 6, none⟩ = some v6 := hb.cell 6
  have c7 : w.cell? ⟨R, 7, none⟩ = some v7 := hb.cell 7
  have c8 : w.cell? ⟨R, 8, none⟩ = some v8 := hb.cell 8
  have c9 : w.cell? ⟨R, 9, none⟩ = some v9 := hb.cell 9
  have c10 : w.cell? ⟨R, 10, none⟩ = some v10 := hb.cell 10
  have c11 : w.cell? ⟨R, 11, none⟩ = some v11 := hb.cell 11
  have c12 : w.cell? ⟨R, 12, none⟩ = some v12 := hb.cell 12
  simp only [results, Tryz.f69]
  simp [go_sem, h4', c0, c1, c2, c3, c4, c5, c6, c7, c8, c9, c10, c11, c12]
section
variable {n B G E : Nat} {lv : Value} {σ : Ey} {W : World} {deep : Nat}
set_option maxRecDepth 100000 in
set_option maxHeartbeats 8000000 in
theorem itemP_any {Bf : Nat → Nat → Ey → List It × Ey} (hB0 : ∀ E d τ, Tm0 τ (Bf E d τ).2) (IH : BqC n Bf) (P : Prq B G E lv σ W) (hd : deep ≤ 8) (hn : σ.l.length < n + 1) : Calls Tryz.prog 69 #[.pointer (some ⟨G, 0, none⟩), .int .i64 (deep : Nat)] W (IqP (itemF E (Bf E) deep σ) G E W) := by
  have HP := Lib.hid P
  have HI := Lib.hid IH
  have HB0 := Lib.hid hB0
  have hE := P.hE
  have hBG := P.bg
  have hBs : B ≤ W.heap.size := Nat.le_trans P.bg (Nat.le_of_lt P.rs.lt)
  have HL := Lib.hid P.lh
  have hok := P.rs.ok
  have hG := P.rs.lt
  have h0 := Lib.hid (P.rs.below ((Below.refl W.heap.size W).alloc (Nat.le_refl _) (.cells zero13.toArray 92)))
  obtain ⟨J, hJ⟩ : ∃ J, itemF E (Bf E) deep σ = J := ⟨_, rfl⟩
  rw [hJ]
  have HJ := Lib.hid hJ
  clear P IH hJ hB0
  go_enter Tryz.func69, Tryz.ntmps69
  go_wp2_with fail
  obtain ⟨wa, hwa⟩ : ∃ wa, wa = W.alloc (.cells zero13.toArray 92) := ⟨_, rfl⟩
  rw [← hwa] at h0
  have ga := Lib.hid (show W.grownBy wa (some G) by rw [hwa]; exact gb_below _ ((Below.refl _ _).alloc (Nat.le_refl _) _))
  have ra := Lib.hid (show IB wa W.heap.size zero13 by rw [hwa]; exact IB.new _ _)
  have la := Lib.hid (show wa.heap.size = W.heap.size + 1 by rw [hwa]; simp)
  have HC := Lib.hid (At_any h0.out)
  rw [hwa] at HC
  refine (HC.out).mono ?_; rintro e w1 ⟨rfl, hb⟩
  rw [← hwa] at hb
  clear hwa HC
  have h1 := Lib.hid (h0.out.below hb)
  have g1 := Lib.hid (gb_trans ga.out (gb_below (some G) hb))
  have r1 := Lib.hid (ra.out.grown (gb_below (some G) hb) (by omega))
  have l1 := Lib.hid (Nat.le_trans (Nat.le_of_eq la.out.symm) hb.size)
  clear hb h0 ga ra la
  obtain ⟨k, hk⟩ : ∃ k, pos E σ = k := ⟨_, rfl⟩
  have HJ := Lib.hid (show J = itemK E (Bf E) deep k σ by rw [← hk]; exact HJ.out.symm)
  rw [hk]
  clear hk
  go_upto_region 2 with fail
  obtain ⟨w2, hw2⟩ : ∃ w2, w2 = w1.alloc (.cells (itVals (x0 k) (.pointer none) (.slice none 0 0)).toArray 92) := ⟨_, rfl⟩
  have S2 := Lib.hid (show IZ W G E W.heap.size w1.heap.size lv σ (itVals (x0 k) (.pointer none) (.slice none 0 0)) w2 from by
    have hb2 := (Below.refl w1.heap.size w1).alloc (Nat.le_refl _) (.cells (itVals (x0 k) (.pointer none) (.slice none 0 0)).toArray 92)
    have l := l1.out
    rw [hw2]
    exact ⟨h1.out.below hb2, gb_trans g1.out (gb_below _ hb2), IB.new _ _, r1.out.alloc _, by omega, Nat.le_refl _, by omega, hG⟩)
  rw [show w1.alloc (Obj.cells #[Value.int .i64 0, .int .i64 (k : Nat), .string ⟨#[]⟩, .string ⟨#[]⟩, .int .i64 0, .int .i64 0, .bool false, .bool false, .pointer none, .int .i64 0, .string ⟨#[]⟩, .string ⟨#[]⟩, .slice none 0 0] 92) = w2 from hw2.symm]
  clear hw2 h1 g1 r1
  generalize w1.heap.size = X at *
  have HN := Lib.hid hn
  clear hn l1
  go_wp2_with fail
  refine (Take_any S2.out.rs ⟨#[119, 104, 101, 110]⟩ (by decide)).mono ?_; rintro e w3 ⟨rfl, ⟨lv3, hp⟩, hg⟩
  by_cases c1 : txt σ = ⟨#[119, 104, 101, 110]⟩
  · have hdec : decide (txt σ = ⟨#[119, 104, 101, 110]⟩) = true := decide_eq_true c1
    have hne : txt σ ≠ emp := by rw [c1]; decide
    have htk : take E σ ⟨#[119, 104, 101, 110]⟩ = pass E σ := if_pos c1
    have HJ := Lib.hid (show J = whenF (Bf E) deep k (exprF E ((pass E σ).l.length + 1) 1 0 (pass E σ)) from HJ.out.trans (if_pos c1))
    rw [htk] at hp
    have S3 := Lib.hid (S2.out.step hg hp)
    have A3 := Lib.hid ((pass_0 E σ).1 HP.out.at_)
    have N3 := Lib.hid (Nat.lt_of_lt_of_le (pass_lt (E := E) hne) (Nat.le_of_lt_succ HN.out))
    rw [hdec]
    clear hdec hne htk hp hg c1 S2
    generalize pass E σ = τ3 at *
    have y0 : w3.cell? ⟨X, 0, none⟩ = some (.int .i64 0) := S3.out.bx.cell 0
    have f0 := S3.out.bx.free 0
    go_upto_region 4 with fail
    have S4 := Lib.hid (S3.out.set 0 (.int .i64 4))
    clear S3 y0 f0
    generalize w3.setCell ⟨X, 0, none⟩ (.int .i64 4) = w4 at *
    have hx4 := S4.out.bx.lt
    have HX := Lib.hid (read_all (τ3.l.length + 1) B G E lv3 τ3 w4 0 S4.out.rs (HL.out.grown hBG hBs S4.out.gb) hBG A3.out hE (by omega) (Nat.lt_succ_self _))
    have hT := expr_0 E (τ3.l.length + 1) 1 0 τ3
    obtain ⟨r5, hr5⟩ : ∃ r, exprF E (τ3.l.length + 1) 1 0 τ3 = r := ⟨_, rfl⟩
    rw [hr5] at HX hT HJ
    have HX : Hid (Calls Tryz.prog 28 #[.pointer (some ⟨G, 0, none⟩), .int .i64 0] w4 (LvP G E r5 w4)) := HX
    have A5 := Lib.hid (hT.1 A3.out)
    have N5 := Lib.hid (Nat.lt_of_le_of_lt hT.2.1 N3.out)
    obtain ⟨o5, τ5⟩ := r5
    simp only at A5 N5
    clear hr5 hT
    go_wp2_with fail
    refine (HX.out).mono ?_; rintro e w5 ⟨hg, ⟨v5, x5, lv5, rfl, hx, hp, hxf, p5, rfl⟩ | ⟨hc, hth⟩⟩
    · obtain rfl : o5 = some x5 := hx
      have S5 := Lib.hid (S4.out.step hg hp)
      have X5 := Lib.hid hxf
      clear hg hp hxf HX S4
      have y8 : w5.cell? ⟨X, 8, none⟩ = some (.pointer none) := S5.out.bx.cell 8
      have f8 := S5.out.bx.free 8
      obtain ⟨d1, hd1⟩ : ∃ d1, deep + 1 = d1 := ⟨_, rfl⟩
      have HJ := Lib.hid (show J = (.mk 4 k ⟨#[]⟩ ⟨#[]⟩ 0 0 false false (some x5) 0 ⟨#[]⟩ ⟨#[]⟩ (Bf E d1 τ5).1, (Bf E d1 τ5).2) by rw [← hd1]; exact HJ.out)
      have ed : (deep : Int) + 1 = (d1 : Int) := by omega
      have hd9 : d1 ≤ 9 := by omega
      go_upto_region 5 with fail
      have S6 := Lib.hid (S5.out.set 8 (.pointer p5))
      have X6 := Lib.hid (show ExF (X + 1) (w5.setCell ⟨X, 8, none⟩ (.pointer p5)) x5 (.pointer p5) from (ExF.low X5.out hx4).set)
      clear S5 X5 y8 f8 hd1
      generalize w5.setCell ⟨X, 8, none⟩ (.pointer p5) = w6 at *
      have hB := Lib.hid (HI.out B G E lv5 τ5 w6 d1 ⟨S6.out.rs, HL.out.grown hBG hBs S6.out.gb, hBG, A5.out, hE⟩ hd9 N5.out)
      have hBt := Lib.hid (HB0.out E d1 τ5)
      generalize Bf E d1 τ5 = r7 at *
      obtain ⟨l7, τ7⟩ := r7
      go_wp2_with fail
      refine (hB.out).mono ?_; rintro e w7 ⟨hg, ⟨v7, lv7, rfl, hp, ⟨a7, m7, c7, rfl⟩, hl16, hxf⟩ | ⟨hc, hth⟩⟩
      · have S7 := Lib.hid (S6.out.step hg hp)
        have E7 := Lib.hid (ExF.grown X6.out hg (by have := S6.out.hX; omega))
        have X7 := Lib.hid hxf
        have hx6 := S6.out.bx.lt
        clear hg hp hxf S6 X6 hB
        have y12 : w7.cell? ⟨X, 12, none⟩ = some (.slice none 0 0) := S7.out.bx.cell 12
        have f12 := S7.out.bx.free 12
        go_upto_region 6 with fail
        have S8 := Lib.hid (S7.out.set 12 (.slice a7 m7 c7))
        have E8 := Lib.hid (show ExF (X + 1) (w7.setCell ⟨X, 12, none⟩ (.slice a7 m7 c7)) x5 (.pointer p5) from ExF.set E7.out)
        have X8 := Lib.hid (show ItsF (X + 1) (w7.setCell ⟨X, 12, none⟩ (.slice a7 m7 c7)) l7 (.slice a7 m7 c7) from Fw.later (Fw.low X7.out hx6) (by simp [World.setCell]) fun k h1 _ => Below.heap_setCell _ _ _ _ (show k ≠ X by omega))
        clear S7 y12 f12 E7 X7
        generalize w7.setCell ⟨X, 12, none⟩ (.slice a7 m7 c7) = w8 at *
        have y0 : w8.cell? ⟨X, 0, none⟩ = some (.int .i64 4) := S8.out.bx.cell 0
        have y1 : w8.cell? ⟨X, 1, none⟩ = some (.int .i64 (k : Nat)) := S8.out.bx.cell 1
        have y2 : w8.cell? ⟨X, 2, none⟩ = some (.string ⟨#[]⟩) := S8.out.bx.cell 2
        have y3 : w8.cell? ⟨X, 3, none⟩ = some (.string ⟨#[]⟩) := S8.out.bx.cell 3
        have y4 : w8.cell? ⟨X, 4, none⟩ = some (.int .i64 0) := S8.out.bx.cell 4
        have y5 : w8.cell? ⟨X, 5, none⟩ = some (.int .i64 0) := S8.out.bx.cell 5
        have y6 : w8.cell? ⟨X, 6, none⟩ = some (.bool false) := S8.out.bx.cell 6
        have y7 : w8.cell? ⟨X, 7, none⟩ = some (.bool false) := S8.out.bx.cell 7
        have y8 : w8.cell? ⟨X, 8, none⟩ = some (.pointer p5) := S8.out.bx.cell 8
        have y9 : w8.cell? ⟨X, 9, none⟩ = some (.int .i64 0) := S8.out.bx.cell 9
        have y10 : w8.cell? ⟨X, 10, none⟩ = some (.string ⟨#[]⟩) := S8.out.bx.cell 10
        have y11 : w8.cell? ⟨X, 11, none⟩ = some (.string ⟨#[]⟩) := S8.out.bx.cell 11
        have y12 : w8.cell? ⟨X, 12, none⟩ = some (.slice a7 m7 c7) := S8.out.bx.cell 12
        have r0 : w8.cell? ⟨W.heap.size, 0, none⟩ = some (.int .i64 0) := S8.out.rx.cell 0
        have g0 := S8.out.rx.free 0
        have r1 : w8.cell? ⟨W.heap.size, 1, none⟩ = some (.int .i64 0) := S8.out.rx.cell 1
        have g1 := S8.out.rx.free 1
        have r2 : w8.cell? ⟨W.heap.size, 2, none⟩ = some (.string ⟨#[]⟩) := S8.out.rx.cell 2
        have g2 := S8.out.rx.free 2
        have r3 : w8.cell? ⟨W.heap.size, 3, none⟩ = some (.string ⟨#[]⟩) := S8.out.rx.cell 3
        have g3 := S8.out.rx.free 3
        have r4 : w8.cell? ⟨W.heap.size, 4, none⟩ = some (.int .i64 0) := S8.out.rx.cell 4
        have g4 := S8.out.rx.free 4
        have r5 : w8.cell? ⟨W.heap.size, 5, none⟩ = some (.int .i64 0) := S8.out.rx.cell 5
        have g5 := S8.out.rx.free 5
        have r6 : w8.cell? ⟨W.heap.size, 6, none⟩ = some (.bool false) := S8.out.rx.cell 6
        have g6 := S8.out.rx.free 6
        have r7 : w8.cell? ⟨W.heap.size, 7, none⟩ = some (.bool false) := S8.out.rx.cell 7
        have g7 := S8.out.rx.free 7
        have r8 : w8.cell? ⟨W.heap.size, 8, none⟩ = some (.pointer none) := S8.out.rx.cell 8
        have g8 := S8.out.rx.free 8
        have r9 : w8.cell? ⟨W.heap.size, 9, none⟩ = some (.int .i64 0) := S8.out.rx.cell 9
        have g9 := S8.out.rx.free 9
        have r10 : w8.cell? ⟨W.heap.size, 10, none⟩ = some (.string ⟨#[]⟩) := S8.out.rx.cell 10
        have g10 := S8.out.rx.free 10
        have r11 : w8.cell? ⟨W.heap.size, 11, none⟩ = some (.string ⟨#[]⟩) := S8.out.rx.cell 11
        have g11 := S8.out.rx.free 11
        have r12 : w8.cell? ⟨W.heap.size, 12, none⟩ = some (.slice none 0 0) := S8.out.rx.cell 12
        have g12 := S8.out.rx.free 12
        go_wp2_with fail
        have Q := Lib.hid (((((((((((((S8.out.rz.set 0 (.int .i64 4)).set 1 (.int .i64 (k : Nat))).set 2 (.string ⟨#[]⟩)).set 3 (.string ⟨#[]⟩)).set 4 (.int .i64 0)).set 5 (.int .i64 0)).set 6 (.bool false)).set 7 (.bool false)).set 8 (.pointer p5)).set 9 (.int .i64 0)).set 10 (.string ⟨#[]⟩)).set 11 (.string ⟨#[]⟩)).set 12 (.slice a7 m7 c7))
        clear y0 r0 g0 y1 r1 g1 y2 r2 g2 y3 r3 g3 y4 r4 g4 y5 r5 g5 y6 r6 g6 y7 r7 g7 y8 r8 g8 y9 r9 g9 y10 r10 g10 y11 r11 g11 y12 r12 g12
        generalize (((((((((((((w8.setCell ⟨W.heap.size, 0, none⟩ (.int .i64 4)).setCell ⟨W.heap.size, 1, none⟩ (.int .i64 (k : Nat))).setCell ⟨W.heap.size, 2, none⟩ (.string ⟨#[]⟩)).setCell ⟨W.heap.size, 3, none⟩ (.string ⟨#[]⟩)).setCell ⟨W.heap.size, 4, none⟩ (.int .i64 0)).setCell ⟨W.heap.size, 5, none⟩ (.int .i64 0)).setCell ⟨W.heap.size, 6, none⟩ (.bool false)).setCell ⟨W.heap.size, 7, none⟩ (.bool false)).setCell ⟨W.heap.size, 8, none⟩ (.pointer p5)).setCell ⟨W.heap.size, 9, none⟩ (.int .i64 0)).setCell ⟨W.heap.size, 10, none⟩ (.string ⟨#[]⟩)).setCell ⟨W.heap.size, 11, none⟩ (.string ⟨#[]⟩)).setCell ⟨W.heap.size, 12, none⟩ (.slice a7 m7 c7)) = w9 at *
        refine bodyPost_ret (itemP_results _ _ W.heap.size _ _ _ _ _ _ _ _ _ _ _ _ _ rfl Q.out.rx) rfl ?_
        refine ⟨Q.out.gb, .inl ⟨p5, .slice a7 m7 c7, lv7, by rw [HJ.out]; rfl, by rw [HJ.out]; exact Q.out.rs, ⟨_, _, _, rfl⟩, ?_⟩⟩
        rw [HJ.out]
        exact Q.out.itF S8.out.hX (itF_mk (ctF_some E8.out) X8.out)
      · have HG := Lib.hid (gb_trans S6.out.gb hg)
        have HJ2 := Lib.hid (show J.2 = τ7 from by rw [HJ.out])
        have T9 := Lib.hid hth
        have C9 := Lib.hid hc
        obtain ⟨b9, rfl, q0, q1⟩ := hth
        clear hg hc q0 q1
        go_wp2_with fail
        refine ⟨rfl, HG.out, .inr ?_⟩
        rw [HJ2.out]
        exact ⟨C9.out, T9.out⟩
    · have HG := Lib.hid (gb_trans S4.out.gb hg)
      have HJ2 := Lib.hid (show J.2 = τ5 from by rw [HJ.out]; exact (HB0.out E (deep + 1) τ5).2.2 hc)
      have T9 := Lib.hid hth
      have C9 := Lib.hid hc
      obtain ⟨b9, rfl, q0, q1⟩ := hth
      clear hg hc q0 q1
      go_wp2_with fail
      refine ⟨rfl, HG.out, .inr ?_⟩
      rw [HJ2.out]
      exact ⟨C9.out, T9.out⟩
  · have hdec : decide (txt σ = ⟨#[119, 104, 101, 110]⟩) = false := decide_eq_false c1
    rw [take_no c1] at hp
    have S3 := Lib.hid (S2.out.step hg hp)
    have HJ := Lib.hid (show J = tailF E (headF E k σ) from HJ.out.trans (if_neg c1))
    rw [hdec]
    clear hdec hp hg c1 S2
    go_wp2_with fail
    refine (Text_any S3.out.rs).mono ?_; rintro e w4 ⟨rfl, hb⟩
    have S4 := Lib.hid (S3.out.below hb)
    clear hb S3
    have KC := Lib.hid (kind_any (txt_nob HP.out.at_))
    have hkv : ∃ (a1 a2 : Int) (a3 ok : Bool), kindV (txt σ) = .tuple #[.int .i64 a1, .int .i64 a2, .bool a3, .bool ok] ∧ ok = isNumP (txt σ) ∧ (ok = true → a1 = numW (txt σ) ∧ a2 = numO (txt σ) ∧ a3 = numS (txt σ)) ∧ (ok = false → a1 = 0 ∧ a2 = 0 ∧ a3 = false) := by
      by_cases h : isNumP (txt σ) = true
      · exact ⟨_, _, _, _, if_pos h, h.symm, fun _ => ⟨rfl, rfl, rfl⟩, (fun h => by cases h)⟩
      · exact ⟨_, _, _, _, if_neg h, (by simpa using h), (fun h => by cases h), fun _ => ⟨rfl, rfl, rfl⟩⟩
    obtain ⟨a1, a2, a3, ok, hkv, hok1, hok2, hok3⟩ := hkv
    have HO1 := Lib.hid hok1
    have HO2 := Lib.hid hok2
    have HO3 := Lib.hid hok3
    unfold KindC at KC
    rw [hkv] at KC
    obtain ⟨s, hs⟩ : ∃ s, txt σ = s := ⟨_, rfl⟩
    have HS := Lib.hid hs
    rw [hs] at KC ⊢
    clear hok1 hok2 hok3 hkv hs
    go_wp2_with fail
    refine (KC.out _).mono ?_; rintro e w5 ⟨rfl, hb⟩
    have S5 := Lib.hid (S4.out.below hb)
    clear hb S4 KC
    have y4 : w5.cell? ⟨X, 4, none⟩ = some (.int .i64 0) := S5.out.bx.cell 4
    have y5 : w5.cell? ⟨X, 5, none⟩ = some (.int .i64 0) := S5.out.bx.cell 5
    have y6 : w5.cell? ⟨X, 6, none⟩ = some (.bool false) := S5.out.bx.cell 6
    have f4 := S5.out.bx.free 4
    have f5 := S5.out.bx.free 5
    have f6 := S5.out.bx.free 6
    go_upto_region 10 with fail
    have S6 := Lib.hid (((S5.out.set 4 (.int .i64 a1)).set 5 (.int .i64 a2)).set 6 (.bool a3))
    clear S5 y4 y5 y6 f4 f5 f6
    generalize ((w5.setCell ⟨X, 4, none⟩ (.int .i64 a1)).setCell ⟨X, 5, none⟩ (.int .i64 a2)).setCell ⟨X, 6, none⟩ (.bool a3) = w6 at *
    have S6 : Hid (IZ W G E W.heap.size X lv3 σ (itVals (.mk 0 k ⟨#[]⟩ ⟨#[]⟩ a1 a2 a3 false none 0 ⟨#[]⟩ ⟨#[]⟩ []) (.pointer none) (.slice none 0 0)) w6) := S6
    go_upto_if 35 with fail
    go_cut [] (fun wx => HdZ J σ W G E X k wx)
    case first =>
      have y0 : w6.cell? ⟨X, 0, none⟩ = some (.int .i64 0) := S6.out.bx.cell 0
      have f0 := S6.out.bx.free 0
      cases ok with
      | true =>
        obtain ⟨rfl, rfl, rfl⟩ := HO2.out rfl
        have hnum : isNumP (txt σ) = true := HO1.out.symm
        have hne : txt σ ≠ emp := fun e => by rw [e] at hnum; exact absurd hnum (by decide)
        have hnb : txt σ ≠ ⟨#[98, 121, 116, 101, 115]⟩ := fun e => by rw [e] at hnum; exact absurd hnum (by decide +kernel)
        have HJ := Lib.hid (show J = tailF E (headZ E k 1 ⟨#[]⟩ (numW (txt σ)) (numO (txt σ)) (numS (txt σ)) (nameF E (pass E σ))) from HJ.out.trans (congrArg (tailF E) ((if_neg hnb).trans ((if_pos hnum).trans (if_neg (show ¬ (1 : Int) = 2 by decide)).symm))))
        have hpo := pass_ok (E := E) hne
        generalize numW (txt σ) = a1 at *
        generalize numO (txt σ) = a2 at *
        generalize numS (txt σ) = a3 at *
        have T7 := Lib.hid (pass_0 E σ)
        clear hnum hne hnb
        go_upto_region 12 with fail
        have S7 := Lib.hid (S6.out.set 0 (.int .i64 1))
        clear S6 y0 f0
        generalize w6.setCell ⟨X, 0, none⟩ (.int .i64 1) = w7 at *
        have HPS := Lib.hid (Pass_any S7.out.rs)
        go_wp2_with fail
        refine (HPS.out).mono ?_; rintro e w8 ⟨hg, ⟨rfl, lv8, hr⟩ | ⟨hc, hth⟩⟩
        · have S8 := Lib.hid (S7.out.step hg hr)
          clear hg hr S7 hpo HPS
          generalize pass E σ = τ8 at *
          go_wp2_with fail
          go_meet
          exact ⟨lv8, τ8, 1, ⟨#[]⟩, a1, a2, a3, S8, T7, .inl rfl, Lib.hid (fun h => absurd h (by decide)), HJ⟩
        · exact absurd (show (pass E σ).c = 0 by rw [hpo]; exact hok) hc
      | false =>
        obtain ⟨rfl, rfl, rfl⟩ := HO3.out rfl
        have hnum : ¬ isNumP (txt σ) = true := by rw [← HO1.out]; decide
        have HNM := Lib.hid hnum
        have TK := Lib.hid (Take_any S6.out.rs ⟨#[98, 121, 116, 101, 115]⟩ (by decide))
        clear hnum
        by_cases c2 : txt σ = ⟨#[98, 121, 116, 101, 115]⟩
        · have hdec : decide (txt σ = ⟨#[98, 121, 116, 101, 115]⟩) = true := decide_eq_true c2
          have htk : take E σ ⟨#[98, 121, 116, 101, 115]⟩ = pass E σ := if_pos c2
          have HJ := Lib.hid (show J = tailF E (headZ E k 2 ⟨#[]⟩ 0 0 false (nameF E (pass E σ))) from HJ.out.trans (congrArg (tailF E) ((if_pos c2).trans (if_pos rfl).symm)))
          rw [hdec, htk] at TK
          have T7 := Lib.hid (pass_0 E σ)
          clear hdec htk c2
          generalize pass E σ = τ7 at *
          go_wp2_with fail
          refine (TK.out).mono ?_; rintro e w7 ⟨rfl, ⟨lv7, hr⟩, hg⟩
          have S7 := Lib.hid (S6.out.step hg hr)
          clear hg hr S6 TK y0 f0
          have y0 : w7.cell? ⟨X, 0, none⟩ = some (.int .i64 0) := S7.out.bx.cell 0
          have f0 := S7.out.bx.free 0
          go_wp2_with fail
          have S8 := Lib.hid (S7.out.set 0 (.int .i64 2))
          go_meet
          exact ⟨lv7, τ7, 2, ⟨#[]⟩, 0, 0, false, S8, T7, .inr (.inl rfl), Lib.hid (fun _ => ⟨rfl, rfl, rfl, rfl⟩), HJ⟩
        · have hdec : decide (txt σ = ⟨#[98, 121, 116, 101, 115]⟩) = false := decide_eq_false c2
          have htk : take E σ ⟨#[98, 121, 116, 101, 115]⟩ = σ := if_neg c2
          have HJ := Lib.hid (show J = tailF E (headZ E k 3 (nameF E σ).1 0 0 false (nameF E (nameF E σ).2)) from HJ.out.trans (congrArg (tailF E) ((if_neg c2).trans ((if_neg HNM.out).trans (if_neg (show ¬ (3 : Int) = 2 by decide)).symm))))
          rw [hdec, htk] at TK
          have T7 := Lib.hid (name_0 E σ)
          clear hdec htk c2
          go_wp2_with fail
          refine (TK.out).mono ?_; rintro e w7 ⟨rfl, ⟨lv7, hr⟩, hg⟩
          have S7 := Lib.hid (S6.out.step hg hr)
          clear hg hr S6 TK y0 f0
          go_wp2_with fail
          refine (nameP_any S7.out.rs HP.out.at_).mono ?_; rintro e w8 ⟨hg, ⟨rfl, lv8, hr⟩ | ⟨hc, hth⟩⟩
          · have S8 := Lib.hid (S7.out.step hg hr)
            generalize nameF E σ = r8 at *
            obtain ⟨n8, τ8⟩ := r8
            simp only at S8 T7
            clear hg hr S7
            have y0 : w8.cell? ⟨X, 0, none⟩ = some (.int .i64 0) := S8.out.bx.cell 0
            have f0 := S8.out.bx.free 0
            have y3 : w8.cell? ⟨X, 3, none⟩ = some (.string ⟨#[]⟩) := S8.out.bx.cell 3
            have f3 := S8.out.bx.free 3
            go_wp2_with fail
            have S9 := Lib.hid ((S8.out.set 0 (.int .i64 3)).set 3 (.string n8))
            go_meet
            exact ⟨lv8, τ8, 3, n8, 0, 0, false, S9, T7, .inr (.inr rfl), Lib.hid (fun h => absurd h (by decide)), HJ⟩
          · have HG := Lib.hid (gb_trans S7.out.gb hg)
            have HJ2 := Lib.hid (show J.2 = (nameF E σ).2 from by rw [HJ.out, tz_stop (by rw [nameF_stop hc]; exact hc)]; exact nameF_stop hc)
            have T9 := Lib.hid hth
            have C9 := Lib.hid hc
            obtain ⟨b9, rfl, q0, q1⟩ := hth
            clear hg hc q0 q1
            go_wp2_with fail
            refine ⟨rfl, HG.out, .inr ?_⟩
            rw [HJ2.out]
            exact ⟨C9.out, T9.out⟩
    case rest =>
      clear S6 HJ HO1 HO2 HO3
      obtain ⟨lv6, τ6, kd, tp, wd, od, sg, S6, T6, hkd, K6, J6⟩ := hcut
      have A6 := Lib.hid (T6.out.1 HP.out.at_)
      go_wp2_with fail
      refine (nameP_any S6.out.rs A6.out).mono ?_; rintro e w7 ⟨hg, ⟨rfl, lv7, hr⟩ | ⟨hc, hth⟩⟩
      · have S7 := Lib.hid (S6.out.step hg hr)
        have T7 := Lib.hid (T6.out.trans (name_0 E τ6))
        have A7 := Lib.hid ((name_0 E τ6).1 A6.out)
        generalize nameF E τ6 = r7 at *
        obtain ⟨n7, τ7⟩ := r7
        simp only at S7 T7 A7
        clear hg hr S6 T6 A6
        have y2 : w7.cell? ⟨X, 2, none⟩ = some (.string ⟨#[]⟩) := S7.out.bx.cell 2
        have f2 := S7.out.bx.free 2
        go_upto_block 0 with fail
        have S8 := Lib.hid (S7.out.set 2 (.string n7))
        clear S7 y2 f2
        generalize w7.setCell ⟨X, 2, none⟩ (.string n7) = w8 at *
        have S8 : Hid (IZ W G E W.heap.size X lv7 τ7 (itVals (.mk kd k n7 tp wd od sg false none 0 ⟨#[]⟩ ⟨#[]⟩ []) (.pointer none) (.slice none 0 0)) w8) := S8
        have hx8 := S8.out.bx.lt
        go_cut [] (fun wx => TlZ J σ W G E X wx)
        case first =>
          have y0 : w8.cell? ⟨X, 0, none⟩ = some (.int .i64 kd) := S8.out.bx.cell 0
          by_cases hk2 : kd = 2
          · obtain ⟨rfl, rfl, rfl, rfl⟩ := K6.out hk2
            subst hk2
            have HJ := Lib.hid (show J = tailF E (headB E k (n7, τ7)) from J6.out.trans (congrArg (tailF E) (if_pos rfl)))
            have HJ := Lib.hid (show J = tailF E (.mk 2 k n7 ⟨#[]⟩ 0 0 false false (exprF E (τ7.l.length + 1) 1 0 (must E τ7 ⟨#[91]⟩)).1 0 ⟨#[]⟩ ⟨#[]⟩ [], must E (exprF E (τ7.l.length + 1) 1 0 (must E τ7 ⟨#[91]⟩)).2 ⟨#[93]⟩) from HJ.out)
            have HE := Lib.hid (expr_0 E (τ7.l.length + 1) 1 0)
            have HM := Lib.hid (must_0 E τ7 ⟨#[91]⟩)
            have HRd := Lib.hid (fun (w : World) (lv : Value) (h : RS G E lv (must E τ7 ⟨#[91]⟩) w) (hl : LH B w) => read_all (τ7.l.length + 1) B G E lv _ w 0 h hl hBG (HM.out.1 A7.out) hE (by omega) (Nat.lt_succ_of_le HM.out.2.1))
            go_wp2_with fail
            refine (Must_any S8.out.rs ⟨#[91]⟩ (by decide)).mono ?_; rintro e w9 ⟨hg, ⟨rfl, lv9, hr⟩ | ⟨hc, hth⟩⟩
            · have S9 := Lib.hid (S8.out.step hg hr)
              have T9 := Lib.hid (T7.out.trans HM.out)
              generalize must E τ7 ⟨#[91]⟩ = τ9 at *
              have HX := Lib.hid (HRd.out w9 lv9 hr (HL.out.grown hBG hBs S9.out.gb))
              have HEx := Lib.hid (HE.out τ9)
              obtain ⟨r, hre⟩ : ∃ r, exprF E (τ7.l.length + 1) 1 0 τ9 = r := ⟨_, rfl⟩
              rw [hre] at HX HJ HEx
              have HX : Hid (Calls Tryz.prog 28 #[.pointer (some ⟨G, 0, none⟩), .int .i64 0] w9 (LvP G E r w9)) := HX
              clear hg hr HRd HE hre y0 S8
              go_wp2_with fail
              refine (HX.out).mono ?_; rintro e w10 ⟨hg, ⟨v10, x10, lv10, rfl, hx, hp, hxf, p10, rfl⟩ | ⟨hc, hth⟩⟩
              · obtain ⟨o10, τ10⟩ := r
                obtain rfl : o10 = some x10 := hx
                have S10 := Lib.hid (S9.out.step hg hp)
                have T10 := Lib.hid (T9.out.trans HEx.out)
                have hx9 := S9.out.bx.lt
                have X10 := Lib.hid (hxf.low hx9)
                clear hg hp hxf HX
                have y8 : w10.cell? ⟨X, 8, none⟩ = some (.pointer none) := S10.out.bx.cell 8
                have f8 := S10.out.bx.free 8
                go_upto_region 20 with fail
                have S11 := Lib.hid (S10.out.set 8 (.pointer p10))
                have X11 := Lib.hid (ExF.set (X := X) (j := 8) (u := .pointer p10) X10.out)
                clear S10 X10 y8 f8
                generalize w10.setCell ⟨X, 8, none⟩ (.pointer p10) = w11 at *
                go_wp2_with fail
                refine (Must_any S11.out.rs ⟨#[93]⟩ (by decide)).mono ?_; rintro e w12 ⟨hg, ⟨rfl, lv12, hr⟩ | ⟨hc, hth⟩⟩
                · have S12 := Lib.hid (S11.out.step hg hr)
                  have X12 := Lib.hid (ExF.grown X11.out hg (by have := S11.out.hX; omega))
                  have T12 := Lib.hid (T10.out.trans (must_0 E τ10 ⟨#[93]⟩))
                  have HJ := Lib.hid (HJ.out.trans (tailF_bare (fun h => h.1 rfl) (show ¬ (2 : Int) = 1 by decide)))
                  clear hg hr S11 X11
                  generalize must E τ10 ⟨#[93]⟩ = τ12 at *
                  go_wp2_with fail
                  go_meet
                  exact ⟨lv12, τ12, .mk 2 k n7 ⟨#[]⟩ 0 0 false false (some x10) 0 ⟨#[]⟩ ⟨#[]⟩ [], p10, S12, T12, Lib.hid (ctF_some X12.out), Lib.hid rfl, HJ⟩
                · have HG := Lib.hid (gb_trans S11.out.gb hg)
                  have HJ2 := Lib.hid (show J.2 = must E τ10 ⟨#[93]⟩ from by rw [HJ.out]; exact (tail_0 E _).2.2 hc)
                  have T9 := Lib.hid hth
                  have C9 := Lib.hid hc
                  obtain ⟨b9, rfl, q0, q1⟩ := hth
                  clear hg hc q0 q1
                  go_wp2_with fail
                  refine ⟨rfl, HG.out, .inr ?_⟩
                  rw [HJ2.out]
                  exact ⟨C9.out, T9.out⟩
              · have HG := Lib.hid (gb_trans S9.out.gb hg)
                have HJ2 := Lib.hid (show J.2 = r.2 from by rw [HJ.out]; have e := must_stop (E := E) (s := ⟨#[93]⟩) hc (by decide); exact ((tail_0 E _).2.2 (by show (must E r.2 ⟨#[93]⟩).c ≠ 0; rw [e]; exact hc)).trans e)
                have T9 := Lib.hid hth
                have C9 := Lib.hid hc
                obtain ⟨b9, rfl, q0, q1⟩ := hth
                clear hg hc q0 q1
                go_wp2_with fail
                refine ⟨rfl, HG.out, .inr ?_⟩
                rw [HJ2.out]
                exact ⟨C9.out, T9.out⟩
            · have HG := Lib.hid (gb_trans S8.out.gb hg)
              have HJ2 := Lib.hid (show J.2 = must E τ7 ⟨#[91]⟩ from by rw [HJ.out, exprF_stop _ _ _ hc]; have e := must_stop (E := E) (s := ⟨#[93]⟩) hc (by decide); exact ((tail_0 E _).2.2 (by show (must E (must E τ7 ⟨#[91]⟩) ⟨#[93]⟩).c ≠ 0; rw [e]; exact hc)).trans e)
              have T9 := Lib.hid hth
              have C9 := Lib.hid hc
              obtain ⟨b9, rfl, q0, q1⟩ := hth
              clear hg hc q0 q1
              go_wp2_with fail
              refine ⟨rfl, HG.out, .inr ?_⟩
              rw [HJ2.out]
              exact ⟨C9.out, T9.out⟩
          · have hk3 : (kd == 2) = false := by simpa using hk2
            have HJ := Lib.hid (show J = tailF E (.mk kd k n7 tp wd od sg false none 0 ⟨#[]⟩ ⟨#[]⟩ [], τ7) from J6.out.trans (congrArg (tailF E) (if_neg hk2)))
            have TK := Lib.hid (Take_any S8.out.rs ⟨#[91]⟩ (by decide))
            by_cases c3 : txt τ7 = ⟨#[91]⟩
            · have hdec : decide (txt τ7 = ⟨#[91]⟩) = true := decide_eq_true c3
              have htk : take E τ7 ⟨#[91]⟩ = must E τ7 ⟨#[91]⟩ := by unfold take must; rw [if_pos c3, if_pos c3]
              have HJ := Lib.hid (HJ.out.trans (tailF_many (x := .mk kd k n7 tp wd od sg false none 0 ⟨#[]⟩ ⟨#[]⟩ []) hk2 c3))
              have HJ := Lib.hid (show J = endF E (.mk kd k n7 tp wd od sg true (exprF E (τ7.l.length + 1) 1 0 (must E τ7 ⟨#[91]⟩)).1 0 ⟨#[]⟩ ⟨#[]⟩ [], must E (exprF E (τ7.l.length + 1) 1 0 (must E τ7 ⟨#[91]⟩)).2 ⟨#[93]⟩) from HJ.out)
              have HE := Lib.hid (expr_0 E (τ7.l.length + 1) 1 0)
              have HM := Lib.hid (must_0 E τ7 ⟨#[91]⟩)
              have HRd := Lib.hid (fun (w : World) (lv : Value) (h : RS G E lv (must E τ7 ⟨#[91]⟩) w) (hl : LH B w) => read_all (τ7.l.length + 1) B G E lv _ w 0 h hl hBG (HM.out.1 A7.out) hE (by omega) (Nat.lt_succ_of_le HM.out.2.1))
              rw [hdec, htk] at TK
              clear hdec htk c3
              go_wp2_with fail
              refine (TK.out).mono ?_; rintro e w9 ⟨rfl, ⟨lv9, hr⟩, hg⟩
              have S9 := Lib.hid (S8.out.step hg hr)
              have T9 := Lib.hid (T7.out.trans HM.out)
              generalize must E τ7 ⟨#[91]⟩ = τ9 at *
              clear hg hr y0 S8 TK
              have y7 : w9.cell? ⟨X, 7, none⟩ = some (.bool false) := S9.out.bx.cell 7
              have f7 := S9.out.bx.free 7
              go_upto_region 23 with fail
              have S91 := Lib.hid (S9.out.set 7 (.bool true))
              clear S9 y7 f7
              generalize w9.setCell ⟨X, 7, none⟩ (.bool true) = w91 at *
              have HX := Lib.hid (HRd.out w91 lv9 S91.out.rs (HL.out.grown hBG hBs S91.out.gb))
              have HEx := Lib.hid (HE.out τ9)
              obtain ⟨r, hre⟩ : ∃ r, exprF E (τ7.l.length + 1) 1 0 τ9 = r := ⟨_, rfl⟩
              rw [hre] at HX HJ HEx
              have HX : Hid (Calls Tryz.prog 28 #[.pointer (some ⟨G, 0, none⟩), .int .i64 0] w91 (LvP G E r w91)) := HX
              clear HRd HE hre
              go_wp2_with fail
              refine (HX.out).mono ?_; rintro e w10 ⟨hg, ⟨v10, x10, lv10, rfl, hx, hp, hxf, p10, rfl⟩ | ⟨hc, hth⟩⟩
              · obtain ⟨o10, τ10⟩ := r
                obtain rfl : o10 = some x10 := hx
                have S10 := Lib.hid (S91.out.step hg hp)
                have T10 := Lib.hid (T9.out.trans HEx.out)
                have hx9 := S91.out.bx.lt
                have X10 := Lib.hid (hxf.low hx9)
                clear hg hp hxf HX
                have y8 : w10.cell? ⟨X, 8, none⟩ = some (.pointer none) := S10.out.bx.cell 8
                have f8 := S10.out.bx.free 8
                go_upto_region 24 with fail
                have S11 := Lib.hid (S10.out.set 8 (.pointer p10))
                have X11 := Lib.hid (ExF.set (X := X) (j := 8) (u := .pointer p10) X10.out)
                clear S10 X10 y8 f8
                generalize w10.setCell ⟨X, 8, none⟩ (.pointer p10) = w11 at *
                go_wp2_with fail
                refine (Must_any S11.out.rs ⟨#[93]⟩ (by decide)).mono ?_; rintro e w12 ⟨hg, ⟨rfl, lv12, hr⟩ | ⟨hc, hth⟩⟩
                · have S12 := Lib.hid (S11.out.step hg hr)
                  have X12 := Lib.hid (ExF.grown X11.out hg (by have := S11.out.hX; omega))
                  have T12 := Lib.hid (T10.out.trans (must_0 E τ10 ⟨#[93]⟩))
                  clear hg hr S11 X11
                  generalize must E τ10 ⟨#[93]⟩ = τ12 at *
                  go_wp2_with fail
                  go_meet
                  exact ⟨lv12, τ12, .mk kd k n7 tp wd od sg true (some x10) 0 ⟨#[]⟩ ⟨#[]⟩ [], p10, S12, T12, Lib.hid (ctF_some X12.out), Lib.hid rfl, HJ⟩
                · have HG := Lib.hid (gb_trans S11.out.gb hg)
                  have HJ2 := Lib.hid (show J.2 = must E τ10 ⟨#[93]⟩ from by rw [HJ.out]; exact (endF_0 E _).2.2 hc)
                  have T9 := Lib.hid hth
                  have C9 := Lib.hid hc
                  obtain ⟨b9, rfl, q0, q1⟩ := hth
                  clear hg hc q0 q1
                  go_wp2_with fail
                  refine ⟨rfl, HG.out, .inr ?_⟩
                  rw [HJ2.out]
                  exact ⟨C9.out, T9.out⟩
              · have HG := Lib.hid (gb_trans S91.out.gb hg)
                have HJ2 := Lib.hid (show J.2 = r.2 from by rw [HJ.out]; have e := must_stop (E := E) (s := ⟨#[93]⟩) hc (by decide); exact ((endF_0 E _).2.2 (by show (must E r.2 ⟨#[93]⟩).c ≠ 0; rw [e]; exact hc)).trans e)
                have T9 := Lib.hid hth
                have C9 := Lib.hid hc
                obtain ⟨b9, rfl, q0, q1⟩ := hth
                clear hg hc q0 q1
                go_wp2_with fail
                refine ⟨rfl, HG.out, .inr ?_⟩
                rw [HJ2.out]
                exact ⟨C9.out, T9.out⟩
            · have hdec : decide (txt τ7 = ⟨#[91]⟩) = false := decide_eq_false c3
              have htk : take E τ7 ⟨#[91]⟩ = τ7 := if_neg c3
              rw [hdec, htk] at TK
              have N3 := Lib.hid (show ¬ (kd ≠ 2 ∧ txt τ7 = ⟨#[91]⟩) from fun h => c3 h.2)
              clear hdec htk c3
              go_wp2_with fail
              refine (TK.out).mono ?_; rintro e w9 ⟨rfl, ⟨lv9, hr⟩, hg⟩
              have S9 := Lib.hid (S8.out.step hg hr)
              clear hg hr y0 S8 TK
              have y0 : w9.cell? ⟨X, 0, none⟩ = some (.int .i64 kd) := S9.out.bx.cell 0
              by_cases hk1 : kd = 1
              · subst hk1
                have HJ := Lib.hid (HJ.out.trans (tailF_rule (x := .mk 1 k n7 tp wd od sg false none 0 ⟨#[]⟩ ⟨#[]⟩ []) N3.out rfl))
                have TK := Lib.hid (Take_any S9.out.rs ⟨#[61]⟩ (by decide))
                have HT := Lib.hid (take_0 E τ7 ⟨#[61]⟩)
                generalize decide (txt τ7 = ⟨#[61]⟩) = dd at *
                generalize take E τ7 ⟨#[61]⟩ = τ10 at *
                go_wp2_with fail
                refine (TK.out).mono ?_; rintro e w10 ⟨rfl, ⟨lv10, hr⟩, hg⟩
                have S10 := Lib.hid (S9.out.step hg hr)
                have T10 := Lib.hid (T7.out.trans HT.out)
                have A10 := Lib.hid (HT.out.1 A7.out)
                clear hg hr S9 TK y0
                cases dd with
                | false =>
                  go_wp2_with fail
                  go_meet
                  exact ⟨lv10, τ10, .mk 1 k n7 tp wd od sg false none 0 ⟨#[]⟩ ⟨#[]⟩ [], none, S10, T10, Lib.hid (ctF_none _ _), Lib.hid rfl, HJ⟩
                | true =>
                  have HJ := Lib.hid (HJ.out.trans (ruleF_eq E _ τ10))
                  have HR0 := Lib.hid (ruleZ_0 E (.mk 1 k n7 tp wd od sg false none 0 ⟨#[]⟩ ⟨#[]⟩ []) τ10)
                  have HR1 := Lib.hid (ruleZ_rest E (.mk 1 k n7 tp wd od sg false none 0 ⟨#[]⟩ ⟨#[]⟩ []) τ10)
                  have HRU := Lib.hid (rule_any S10.out A10.out)
                  generalize ruleZ E (.mk 1 k n7 tp wd od sg false none 0 ⟨#[]⟩ ⟨#[]⟩ []) τ10 = r11 at *
                  obtain ⟨x11, τ11⟩ := r11
                  go_wp2_with fail
                  refine (HRU.out).mono ?_; rintro e w11 ⟨hg, ⟨rfl, lv11, hS⟩ | ⟨hc, hth⟩⟩
                  · have S11 := Lib.hid hS
                    clear hg hS
                    go_wp2_with fail
                    go_meet
                    refine ⟨lv11, τ11, x11, none, S11, Lib.hid (T10.out.trans HR0.out), Lib.hid ?_, Lib.hid HR1.out.2, HJ⟩
                    rw [show x11.count = none from HR1.out.1]
                    exact ctF_none _ _
                  · have HG := Lib.hid (hg)
                    have HJ2 := Lib.hid (show J.2 = τ11 from by rw [HJ.out]; exact (endF_0 E _).2.2 hc)
                    have T9 := Lib.hid hth
                    have C9 := Lib.hid hc
                    obtain ⟨b9, rfl, q0, q1⟩ := hth
                    clear hg hc q0 q1
                    go_wp2_with fail
                    refine ⟨rfl, HG.out, .inr ?_⟩
                    rw [HJ2.out]
                    exact ⟨C9.out, T9.out⟩
              · have hk1' : (kd == 1) = false := by simpa using hk1
                have HJ := Lib.hid (HJ.out.trans (tailF_bare (x := .mk kd k n7 tp wd od sg false none 0 ⟨#[]⟩ ⟨#[]⟩ []) N3.out hk1))
                go_wp2_with fail
                go_meet
                exact ⟨lv9, τ7, .mk kd k n7 tp wd od sg false none 0 ⟨#[]⟩ ⟨#[]⟩ [], none, S9, T7, Lib.hid (ctF_none _ _), Lib.hid rfl, HJ⟩
        case rest =>
          clear S8 J6 T7 A7 K6
          obtain ⟨lv9, τ9, ⟨q0, q1, q2, q3, q4, q5, q6, q7, q8, q9, q10, q11, q12⟩, p9, S9, T9, F9, I9, J9⟩ := hcut
          obtain rfl : q12 = [] := I9.out
          have HJ := Lib.hid (show J = (.mk q0 q1 q2 q3 q4 q5 q6 q7 q8 q9 q10 q11 [], must E τ9 ⟨#[59]⟩) from J9.out)
          clear J9 I9
          go_wp2_with fail
          refine (Must_any S9.out.rs ⟨#[59]⟩ (by decide)).mono ?_; rintro e w8 ⟨hg, ⟨rfl, lv8, hr⟩ | ⟨hc, hth⟩⟩
          · have S8 := Lib.hid (S9.out.step hg hr)
            have F8 := Lib.hid (show Fw (X + 1) w8 fun w2 => CtAt w2 q8 (.pointer p9) from Fw.grown F9.out hg (by have := S9.out.hX; omega))
            generalize must E τ9 ⟨#[59]⟩ = τ8 at *
            clear hg hr S9 F9
            have y0 : w8.cell? ⟨X, 0, none⟩ = some (.int .i64 q0) := S8.out.bx.cell 0
            have y1 : w8.cell? ⟨X, 1, none⟩ = some (.int .i64 (q1 : Nat)) := S8.out.bx.cell 1
            have y2 : w8.cell? ⟨X, 2, none⟩ = some (.string q2) := S8.out.bx.cell 2
            have y3 : w8.cell? ⟨X, 3, none⟩ = some (.string q3) := S8.out.bx.cell 3
            have y4 : w8.cell? ⟨X, 4, none⟩ = some (.int .i64 q4) := S8.out.bx.cell 4
            have y5 : w8.cell? ⟨X, 5, none⟩ = some (.int .i64 q5) := S8.out.bx.cell 5
            have y6 : w8.cell? ⟨X, 6, none⟩ = some (.bool q6) := S8.out.bx.cell 6
            have y7 : w8.cell? ⟨X, 7, none⟩ = some (.bool q7) := S8.out.bx.cell 7
            have y8 : w8.cell? ⟨X, 8, none⟩ = some (.pointer p9) := S8.out.bx.cell 8
            have y9 : w8.cell? ⟨X, 9, none⟩ = some (.int .i64 q9) := S8.out.bx.cell 9
            have y10 : w8.cell? ⟨X, 10, none⟩ = some (.string q10) := S8.out.bx.cell 10
            have y11 : w8.cell? ⟨X, 11, none⟩ = some (.string q11) := S8.out.bx.cell 11
            have y12 : w8.cell? ⟨X, 12, none⟩ = some (.slice none 0 0) := S8.out.bx.cell 12
            have r0 : w8.cell? ⟨W.heap.size, 0, none⟩ = some (.int .i64 0) := S8.out.rx.cell 0
            have g0 := S8.out.rx.free 0
            have r1 : w8.cell? ⟨W.heap.size, 1, none⟩ = some (.int .i64 0) := S8.out.rx.cell 1
            have g1 := S8.out.rx.free 1
            have r2 : w8.cell? ⟨W.heap.size, 2, none⟩ = some (.string ⟨#[]⟩) := S8.out.rx.cell 2
            have g2 := S8.out.rx.free 2
            have r3 : w8.cell? ⟨W.heap.size, 3, none⟩ = some (.string ⟨#[]⟩) := S8.out.rx.cell 3
            have g3 := S8.out.rx.free 3
            have r4 : w8.cell? ⟨W.heap.size, 4, none⟩ = some (.int .i64 0) := S8.out.rx.cell 4
            have g4 := S8.out.rx.free 4
            have r5 : w8.cell? ⟨W.heap.size, 5, none⟩ = some (.int .i64 0) := S8.out.rx.cell 5
            have g5 := S8.out.rx.free 5
            have r6 : w8.cell? ⟨W.heap.size, 6, none⟩ = some (.bool false) := S8.out.rx.cell 6
            have g6 := S8.out.rx.free 6
            have r7 : w8.cell? ⟨W.heap.size, 7, none⟩ = some (.bool false) := S8.out.rx.cell 7
            have g7 := S8.out.rx.free 7
            have r8 : w8.cell? ⟨W.heap.size, 8, none⟩ = some (.pointer none) := S8.out.rx.cell 8
            have g8 := S8.out.rx.free 8
            have r9 : w8.cell? ⟨W.heap.size, 9, none⟩ = some (.int .i64 0) := S8.out.rx.cell 9
            have g9 := S8.out.rx.free 9
            have r10 : w8.cell? ⟨W.heap.size, 10, none⟩ = some (.string ⟨#[]⟩) := S8.out.rx.cell 10
            have g10 := S8.out.rx.free 10
            have r11 : w8.cell? ⟨W.heap.size, 11, none⟩ = some (.string ⟨#[]⟩) := S8.out.rx.cell 11
            have g11 := S8.out.rx.free 11
            have r12 : w8.cell? ⟨W.heap.size, 12, none⟩ = some (.slice none 0 0) := S8.out.rx.cell 12
            have g12 := S8.out.rx.free 12
            go_wp2_with fail
            have Q := Lib.hid (((((((((((((S8.out.rz.set 0 (.int .i64 q0)).set 1 (.int .i64 (q1 : Nat))).set 2 (.string q2)).set 3 (.string q3)).set 4 (.int .i64 q4)).set 5 (.int .i64 q5)).set 6 (.bool q6)).set 7 (.bool q7)).set 8 (.pointer p9)).set 9 (.int .i64 q9)).set 10 (.string q10)).set 11 (.string q11)).set 12 (.slice none 0 0))
            clear y0 r0 g0 y1 r1 g1 y2 r2 g2 y3 r3 g3 y4 r4 g4 y5 r5 g5 y6 r6 g6 y7 r7 g7 y8 r8 g8 y9 r9 g9 y10 r10 g10 y11 r11 g11 y12 r12 g12
            generalize (((((((((((((w8.setCell ⟨W.heap.size, 0, none⟩ (.int .i64 q0)).setCell ⟨W.heap.size, 1, none⟩ (.int .i64 (q1 : Nat))).setCell ⟨W.heap.size, 2, none⟩ (.string q2)).setCell ⟨W.heap.size, 3, none⟩ (.string q3)).setCell ⟨W.heap.size, 4, none⟩ (.int .i64 q4)).setCell ⟨W.heap.size, 5, none⟩ (.int .i64 q5)).setCell ⟨W.heap.size, 6, none⟩ (.bool q6)).setCell ⟨W.heap.size, 7, none⟩ (.bool q7)).setCell ⟨W.heap.size, 8, none⟩ (.pointer p9)).setCell ⟨W.heap.size, 9, none⟩ (.int .i64 q9)).setCell ⟨W.heap.size, 10, none⟩ (.string q10)).setCell ⟨W.heap.size, 11, none⟩ (.string q11)).setCell ⟨W.heap.size, 12, none⟩ (.slice none 0 0)) = w9 at *
            refine bodyPost_ret (itemP_results _ _ W.heap.size _ _ _ _ _ _ _ _ _ _ _ _ _ rfl Q.out.rx) rfl ?_
            refine ⟨Q.out.gb, .inl ⟨p9, .slice none 0 0, lv8, by rw [HJ.out]; rfl, by rw [HJ.out]; exact Q.out.rs, ⟨_, _, _, rfl⟩, ?_⟩⟩
            rw [HJ.out]
            exact Q.out.itF S8.out.hX (itF_mk F8.out (itsF_nil _ _))
          · have HG := Lib.hid (gb_trans S9.out.gb hg)
            have HJ2 := Lib.hid (show J.2 = must E τ9 ⟨#[59]⟩ from by rw [HJ.out])
            have T9 := Lib.hid hth
            have C9 := Lib.hid hc
            obtain ⟨b9, rfl, q0, q1⟩ := hth
            clear hg hc q0 q1
            go_wp2_with fail
            refine ⟨rfl, HG.out, .inr ?_⟩
            rw [HJ2.out]
            exact ⟨C9.out, T9.out⟩
      · have HG := Lib.hid (gb_trans S6.out.gb hg)
        have HJ2 := Lib.hid (show J.2 = (nameF E τ6).2 from by rw [J6.out]; exact tz_stop hc)
        have T9 := Lib.hid hth
        have C9 := Lib.hid hc
        obtain ⟨b9, rfl, q0, q1⟩ := hth
        clear hg hc q0 q1
        go_wp2_with fail
        refine ⟨rfl, HG.out, .inr ?_⟩
        rw [HJ2.out]
        exact ⟨C9.out, T9.out⟩
end
end Go.Proofs.YtofmheeiplagjaaGreatDoor.Tm
namespace Go.Proofs.YtofmheeiplagjaaGreatDoor.Tm
open Go.RowKit Go.Proofs.YtofmheeiplagjaaGreatDoor.Lex Go.Proofs.YtofmheeiplagjaaGreatDoor.Dig
def BqR (J : List It × Ey) (I : Ey → It × Ey) (G E : Nat) (σ : Ey) (W : World) (v : Value) (wr : World) : Prop := ∃ (lv : Value) (τ : Ey) (l : List Iv), Hid (RS G E lv τ wr) ∧ Hid (W.grownBy wr (some G)) ∧ Hid (Tm0 σ τ) ∧ Hid (τ.l.length < σ.l.length) ∧ Hid (OwnI wr W.heap.size v l) ∧ l.length ≤ 16 ∧ lenOf v = l.length ∧ Hid (Aw W.heap.size v.ownBlock wr (AllI l)) ∧ Hid (J = bloopF E I (17 - l.length) (l.map (·.1)) τ)
theorem rs_keep {G E : Nat} {lv : Value} {σ : Ey} {w w' : World} (h : RS G E lv σ w) (hk : ∀ k, k ≤ G → w'.heap[k]? = w.heap[k]?) (hs : G < w'.heap.size) : RS G E lv σ w' := by
  have e := hk G (Nat.le_refl _)
  refine ⟨h.ok, (World.cell?_of_block (a := ⟨G, 0, none⟩) e).trans h.c0, (World.cell?_of_block (a := ⟨G, 1, none⟩) e).trans h.c1, fun j => (World.frozen?_of_block (a := ⟨G, j, none⟩) e).trans (h.fz j), ?_, h.nb, hs⟩
  exact tks_kept h.tk fun hl k hkk => hk k (by have := h.nb hl k hkk; omega)
theorem bq_end {J : List It × Ey} {G E : Nat} {lv : Value} {τ : Ey} {W wr w1 : World} {v : Value} {l : List Iv} (hp : RS G E lv τ w1) (hg : W.grownBy wr (some G)) (hg1 : wr.grownBy w1 (some G)) (hG : G < W.heap.size) (ho : OwnI wr W.heap.size v l) (hl : l.length ≤ 16)
    (h : Aw W.heap.size v.ownBlock wr (AllI l)) (hJ : J = (l.map (·.1), τ)) : BqP J G E W (.returned v) w1 := by
  have hne : v.ownBlock ≠ some G := by
    intro e
    have := (World.ownsRow.lt ho G e).1
    omega
  have ho1 := ho.grown hg1 hne
  subst hJ
  refine ⟨gb_trans hg hg1, .inl ⟨v, lv, rfl, hp, ?_, by simpa using hl, its_of ho1 (h.grown hg1 hG)⟩⟩
  obtain ⟨a, cap, e⟩ := ho.len
  exact ⟨a, _, cap, e⟩
section
variable {n : Nat}
set_option maxRecDepth 100000 in
set_option maxHeartbeats 4000000 in
theorem blockP_run (I : Nat → Nat → Ey → It × Ey) (hI : ∀ E d τ, Tm0 τ (I E d τ).2) (HI0 : ∀ (B G E : Nat) (lv : Value) (τ : Ey) (W : World) (deep : Nat), Prq B G E lv τ W → deep ≤ 8 → τ.l.length + 1 < n → Calls Tryz.prog 69 #[.pointer (some ⟨G, 0, none⟩), .int .i64 (deep : Nat)] W (IqP (I E deep τ) G E W)) : BqC n (fun E deep σ => blockF E (I E deep) deep σ) := by
  intro B G E lv σ W deep P hd hn
  have HI := Lib.hid HI0
  have HT := Lib.hid (hI E deep)
  have hE := P.hE
  have hBG := P.bg
  have hBs : B ≤ W.heap.size := Nat.le_trans P.bg (Nat.le_of_lt P.rs.lt)
  have HL := Lib.hid P.lh
  have HA := Lib.hid P.at_
  have hok := P.rs.ok
  have hG := P.rs.lt
  have h0 := Lib.hid P.rs
  have HN := Lib.hid hn
  obtain ⟨J, hJ⟩ : ∃ J, blockF E (I E deep) deep σ = J := ⟨_, rfl⟩
  show Calls _ _ _ _ (BqP (blockF E (I E deep) deep σ) G E W)
  rw [hJ]
  have HJ := Lib.hid (show J = bloopF E (I E deep) 17 [] (must E (openF E deep σ) ⟨#[123]⟩) from hJ.symm)
  have HI := Lib.hid (fun (lv : Value) (τ : Ey) (w : World) (h : Prq B G E lv τ w) (h8 : deep ≤ 8) (hl : τ.l.length + 1 < n) => HI.out B G E lv τ w deep h h8 hl)
  generalize I E deep = I1 at *
  clear P HI0 hn hJ hI
  go_enter Tryz.func47, Tryz.ntmps47
  go_upto_region 1 with fail
  go_cut [12] (fun v wx => ∃ b : Bool, v = .bool b ∧ Hid (RS G E lv σ wx) ∧ Hid (W.grownBy wx (some G)) ∧ Hid (b = decide (txt σ = ⟨#[123]⟩ ∧ 8 < deep)))
  case first =>
    go_wp2_with fail
    refine (Text_any h0.out).mono ?_; rintro e w1 ⟨rfl, hb⟩
    have h1 := Lib.hid (h0.out.below hb)
    have g1 := Lib.hid (gb_below (some G) hb)
    obtain ⟨s, hs⟩ : ∃ s, txt σ = s := ⟨_, rfl⟩
    rw [hs]
    clear hb
    by_cases c1 : s = ⟨#[123]⟩
    · have e1 : (s.toList == [123]) = true := tl_yes (a := #[123]) c1
      have HS := Lib.hid (hs.trans c1)
      clear c1 hs
      by_cases c2 : 8 < deep
      · have d2 : (8 : Int) < (deep : Int) := by omega
        go_wp2_with fail
        go_meet
        exact ⟨true, by first | rfl | simp [d2], h1, g1, Lib.hid (decide_eq_true ⟨HS.out, c2⟩).symm⟩
      · have d2 : ¬ (8 : Int) < (deep : Int) := by omega
        go_wp2_with fail
        go_meet
        exact ⟨false, by first | rfl | simp [d2], h1, g1, Lib.hid (decide_eq_false (fun h => c2 h.2)).symm⟩
    · have e1 : (s.toList == [123]) = false := tl_no (a := #[123]) c1
      have HS := Lib.hid (show txt σ ≠ ⟨#[123]⟩ by rw [hs]; exact c1)
      clear c1 hs
      go_wp2_with fail
      go_meet
      exact ⟨false, rfl, h1, g1, Lib.hid (decide_eq_false (fun h => HS.out h.1)).symm⟩
  case rest =>
    clear h0
    obtain ⟨b, rfl, h1, g1, B1⟩ := hcut
    cases b with
    | true =>
      have HJ2 := Lib.hid (show J.2 = ⟨4, (pos E σ : Nat), σ.l⟩ by
        have e0 : openF E deep σ = ⟨4, (pos E σ : Nat), σ.l⟩ := (if_pos (of_decide_eq_true B1.out.symm)).trans (if_pos hok)
        have h4 : (⟨4, (pos E σ : Nat), σ.l⟩ : Ey).c ≠ 0 := show (4 : Int) ≠ 0 by decide
        rw [HJ.out, e0, must_stop h4 (by decide), bloop_stop h4])
      go_wp2_with fail
      refine (At_any h1.out).mono ?_; rintro e w2 ⟨rfl, hb⟩
      have g2 := Lib.hid (gb_trans g1.out (gb_below (some G) hb))
      clear hb
      go_wp2_with fail
      refine (Fail_any _ _ _).mono ?_; rintro e w3 ⟨⟨b9, rfl, q0, q1⟩, hb⟩
      have HS := Lib.hid (gb_trans g2.out (gb_below (some G) hb))
      have T9 := Lib.hid (show LThr w3 (4, (pos E σ : Nat)) _ from ⟨b9, rfl, q0, q1⟩)
      clear hb q0 q1
      go_wp2_with fail
      refine ⟨rfl, HS.out, .inr ?_⟩
      rw [HJ2.out]
      exact ⟨show (4 : Int) ≠ 0 by decide, T9.out⟩
    | false =>
      have HO := Lib.hid (show openF E deep σ = σ from if_neg (of_decide_eq_false B1.out.symm))
      have HB := Lib.hid (of_decide_eq_false B1.out.symm)
      have HJ := Lib.hid (show J = bloopF E I1 17 [] (must E σ ⟨#[123]⟩) by rw [HJ.out, HO.out])
      clear HO B1
      go_wp2_with fail
      refine (Must_any h1.out ⟨#[123]⟩ (by decide)).mono ?_; rintro e w2 ⟨hg, ⟨rfl, lv2, hr⟩ | ⟨hc, hth⟩⟩
      · have h2 := Lib.hid hr
        have g2 := Lib.hid (gb_trans g1.out hg)
        have T2 := Lib.hid (must_0 E σ ⟨#[123]⟩)
        obtain ⟨m1, m2, m3⟩ := must_got (s := ⟨#[123]⟩) (by decide) hr.ok
        have L2 := Lib.hid m3
        have hd8 : deep ≤ 8 := by
          rcases Nat.lt_or_ge 8 deep with h | h
          · exact absurd ⟨m1, h⟩ HB.out
          · exact h
        generalize must E σ ⟨#[123]⟩ = τ2 at *
        clear hg hr m1 m2 m3 h1 g1 HB
        go_wp2_with fail
        go_loopw [5] (fun v wr => BqR J I1 G E σ W v wr) (fun v _ => 17 - lenOf v)
        case atStart => exact ⟨lv2, τ2, [], h2, g2, T2, L2, Lib.hid (ownI_nil _ _), Nat.zero_le _, rfl, Lib.hid (aw_nil _ _ _), HJ⟩
        case round =>
          clear h2 g2 T2 L2 HJ
          obtain ⟨lv4, τ4, l, h4, g4, T4, L4, O4, hl16, hlo, W4, HJ⟩ := hrel
          have h17 : 17 - l.length = 16 - l.length + 1 := by omega
          have HJ := Lib.hid (show J = bloopF E I1 (16 - l.length + 1) (l.map (·.1)) τ4 by rw [← h17]; exact HJ.out)
          obtain ⟨a4, cap4, rfl⟩ := O4.out.len
          have A4 := Lib.hid (T4.out.1 HA.out)
          have hgs := g4.out.size
          have hc4 := h4.out.ok
          clear h17
          go_wp2_with fail
          refine (Take_any h4.out ⟨#[125]⟩ (by decide)).mono ?_; rintro e w6 ⟨rfl, ⟨lv6, hp⟩, hg⟩
          have g6 := Lib.hid hg
          by_cases c6 : txt τ4 = ⟨#[125]⟩
          · have d6 : decide (txt τ4 = ⟨#[125]⟩) = true := decide_eq_true c6
            rw [d6]
            have h6 := Lib.hid hp
            have HJ := Lib.hid (HJ.out.trans (bloop_end hc4 c6))
            clear hp hg c6 d6
            go_wp2_with fail
            go_ret
            exact bq_end h6.out g4.out g6.out hG O4.out hl16 W4.out HJ.out
          · have d6 : decide (txt τ4 = ⟨#[125]⟩) = false := decide_eq_false c6
            rw [d6]
            rw [take_no c6] at hp
            have h6 := Lib.hid hp
            have N6 := Lib.hid c6
            clear hp hg c6 d6
            by_cases h16 : l.length = 16
            · have i16 : ((l.length : Int) == 16) = true := by rw [beq_iff_eq]; omega
              have HJ := Lib.hid (HJ.out.trans (bloop_many hc4 N6.out (by rw [List.length_map]; omega)))
              have hw : wrong τ4 4 (pos E τ4 : Nat) = ⟨4, (pos E τ4 : Nat), τ4.l⟩ := if_pos hc4
              go_wp2_with fail
              refine (At_any h6.out).mono ?_; rintro e w7 ⟨rfl, hb⟩
              have g7 := Lib.hid (gb_trans (gb_trans g4.out g6.out) (gb_below (some G) hb))
              clear hb
              go_wp2_with fail
              refine (Fail_any _ _ _).mono ?_; rintro e w8 ⟨⟨b9, rfl, q0, q1⟩, hb⟩
              have HS := Lib.hid (gb_trans g7.out (gb_below (some G) hb))
              have T9 := Lib.hid (show LThr w8 (4, (pos E τ4 : Nat)) _ from ⟨b9, rfl, q0, q1⟩)
              clear hb q0 q1
              go_wp2_with fail
              refine ⟨rfl, HS.out, .inr ?_⟩
              rw [HJ.out, hw]
              exact ⟨show (4 : Int) ≠ 0 by decide, T9.out⟩
            · have i16 : ((l.length : Int) == 16) = false := by rw [beq_eq_false_iff_ne]; omega
              have hf16 : 16 - l.length = 17 - (l.length + 1) := by omega
              have HJ := Lib.hid (HJ.out.trans (bloop_next hc4 N6.out (by rw [List.length_map]; omega)))
              have hT := HT.out τ4
              have hI := Lib.hid (HI.out lv6 τ4 w6 ⟨h6.out, HL.out.grown hBG hBs (gb_trans g4.out g6.out), hBG, A4.out, hE⟩ hd8 (by have := HN.out; have := L4.out; omega))
              rw [hf16] at HJ
              obtain ⟨⟨⟨q0, q1, q2, q3, q4, q5, q6, q7, q8, q9, q10, q11, q12⟩, τ7⟩, hJI⟩ : ∃ j, I1 τ4 = j := ⟨_, rfl⟩
              rw [hJI] at HJ hT hI
              have T7 := Lib.hid (T4.out.trans hT)
              have L7 := Lib.hid (Nat.lt_of_le_of_lt hT.2.1 L4.out)
              clear hf16 hJI hT
              go_wp2_with fail
              refine (hI.out).mono ?_; rintro e w7 ⟨hg, ⟨p5, iv, lv7, rfl, hr, ⟨ai, mi, ci, rfl⟩, hxf⟩ | ⟨hc, hth⟩⟩
              · have h7 := Lib.hid hr
                have g7 := Lib.hid (gb_trans g6.out hg)
                have X7 := Lib.hid hxf
                have s6 := g6.out.size
                have s7 := g7.out.size
                have hne : (Value.slice a4 l.length cap4).ownBlock ≠ some G := by
                  intro e
                  have := (World.ownsRow.lt O4.out G e).1
                  omega
                have O7 := Lib.hid (O4.out.grown g7.out hne)
                clear hg hr hxf hI
                simp only at h7 T7 L7 X7
                rw [show (itVals (.mk q0 q1 q2 q3 q4 q5 q6 q7 q8 q9 q10 q11 q12) (.pointer p5) (.slice ai mi ci)).toArray = #[.int .i64 q0, .int .i64 (q1 : Nat), .string q2, .string q3, .int .i64 q4, .int .i64 q5, .bool q6, .bool q7, .pointer p5, .int .i64 q9, .string q10, .string q11, .slice ai mi ci] from rfl]
                go_wp2_with (at_builtin; refine ownI_append1 rfl _ _ rfl W.heap.size (.slice a4 l.length cap4) l rfl (O7.out.alloc _) _ 1 (.mk q0 q1 q2 q3 q4 q5 q6 q7 q8 q9 q10 q11 q12, .pointer p5, .slice ai mi ci) rfl (heap_alloc_new _ _) rfl rfl (by omega) (by simp; omega) ?_; intro v8 w8 ho8 hg8 hb8 hat8; have O8 := Lib.hid ho8; have G8 := Lib.hid hg8; have B8 := Lib.hid hb8; have AT8 := Lib.hid hat8; clear ho8 hg8 hb8 hat8)
                obtain ⟨a8, cap8, rfl⟩ := O8.out.len
                have hb7 := Lib.hid ((Below.refl w7.heap.size w7).alloc (Nat.le_refl _) (.cells #[.int .i64 q0, .int .i64 (q1 : Nat), .string q2, .string q3, .int .i64 q4, .int .i64 q5, .bool q6, .bool q7, .pointer p5, .int .i64 q9, .string q10, .string q11, .slice ai mi ci] 92))
                have p7 := Lib.hid (h7.out.below hb7.out)
                have g77 := Lib.hid (gb_trans (gb_trans g4.out g7.out) (gb_below (some G) hb7.out))
                have hp8 := rs_keep p7.out (fun k hk => B8.out.block k (by omega)) (Nat.lt_of_lt_of_le p7.out.lt B8.out.size)
                refine ⟨⟨lv7, τ7, _, Lib.hid hp8, Lib.hid (gb_low g77.out B8.out), T7, L7, O8, by simp; omega, by simp [lenOf], Lib.hid ?_, Lib.hid (by rw [HJ.out]; simp)⟩, ?_⟩
                · exact aw_next W4.out (Fw.low X7.out s6) (fun k e => (World.ownsRow.lt O4.out k e).2) hgs g7.out hG hb7.out G8.out AT8.out
                · simp only [lenOf, List.length_append, List.length_singleton]
                  omega
              · have HG := Lib.hid (gb_trans (gb_trans g4.out g6.out) hg)
                have T9 := Lib.hid hth
                have C9 := Lib.hid hc
                obtain ⟨b9, rfl, q0, q1⟩ := hth
                clear hg hc q0 q1
                go_wp2_with fail
                refine ⟨rfl, HG.out, .inr ?_⟩
                rw [HJ.out, bloop_stop C9.out]
                exact ⟨C9.out, T9.out⟩
      · have HG := Lib.hid (gb_trans g1.out hg)
        have T9 := Lib.hid hth
        have C9 := Lib.hid hc
        obtain ⟨b9, rfl, q0, q1⟩ := hth
        clear hg hc q0 q1
        go_wp2_with fail
        refine ⟨rfl, HG.out, .inr ?_⟩
        rw [HJ.out, bloop_stop C9.out]
        exact ⟨C9.out, T9.out⟩
end
/-- The contract of the program's block. -/
theorem blockP_ok : ∀ n, BqC n (blkF n) := by
  intro n
  induction n with
  | zero => exact blockP_run (fun _ _ τ => (x0 0, τ)) (fun _ _ τ => Tm0.refl τ) fun _ _ _ _ _ _ _ _ _ hn => absurd hn (Nat.not_lt_zero _)
  | succ n IH => exact blockP_run (fun E deep τ => itemF E (blkF n E) deep τ) (fun E d τ => item_0 (fun d τ => blk_0 n E d τ) d τ) fun B G E lv τ W deep P hd hn => itemP_any (fun E d τ => blk_0 n E d τ) IH P hd (by omega)
end Go.Proofs.YtofmheeiplagjaaGreatDoor.Tm
namespace Go.Proofs.YtofmheeiplagjaaGreatDoor.Tm
open Go.RowKit Go.Proofs.YtofmheeiplagjaaGreatDoor.Lex Go.Proofs.YtofmheeiplagjaaGreatDoor.Dig
theorem typF_stop {E k : Nat} {n : ByteArray × Ey} (h : n.2.c ≠ 0) : (typF E k n).2 = n.2 := (blk_0 _ E 1 n.2).2.2 h
/-- The memory of a round: the reader, the template's box. -/
structure YZ (wr : World) (G E X : Nat) (lv : Value) (τ : Ey) (vs : List Value) (w : World) : Prop where
  rs : RS G E lv τ w
  gb : wr.grownBy w (some G)
  bx : YB w X vs
  hX : wr.heap.size ≤ X
  hG : G < wr.heap.size
theorem YZ.step {wr : World} {G E X : Nat} {lv lv' : Value} {τ τ' : Ey} {vs : List Value} {w w' : World} (h : YZ wr G E X lv τ vs w) (hg : w.grownBy w' (some G)) (hr : RS G E lv' τ' w') : YZ wr G E X lv' τ' vs w' := by
  have a := h.hG
  have b := h.hX
  exact ⟨hr, gb_trans h.gb hg, h.bx.grown hg (by omega), b, a⟩
theorem YZ.set {wr : World} {G E X : Nat} {lv : Value} {τ : Ey} {vs : List Value} {w : World} (h : YZ wr G E X lv τ vs w) (j : Nat) (v : Value) : YZ wr G E X lv τ (vs.set j v) (w.setCell ⟨X, j, none⟩ v) :=
  ⟨rs_other h.rs (by have := h.hG; have := h.hX; omega), gb_set_new h.gb h.hX, h.bx.set j v, h.hX, h.hG⟩
def PqR (J : List Ty × Ey) (G E : Nat) (w2 : World) (σ : Ey) (v : Value) (wr : World) : Prop := ∃ (lv : Value) (τ : Ey) (l : List Tv), Hid (RS G E lv τ wr) ∧ Hid (w2.grownBy wr (some G)) ∧ Hid (Tm0 σ τ) ∧ Hid (OwnY wr w2.heap.size v l) ∧ l.length ≤ 8 ∧ lenOf v = l.length ∧ Hid (Aw w2.heap.size v.ownBlock wr (AllY l)) ∧ Hid (J = tloopF E (10 - l.length) (l.map (·.1)) τ)
/-- What the program's Parse answers. -/
def EtP (s : ByteArray) (W : World) (e : Ending) (w' : World) : Prop := ∃ v ev, e = .returned (.tuple #[v, ev]) ∧ Err.ErrIs w' ev (tmplF s).2.1 (tmplF s).2.2 ∧ Below W.heap.size W w' ∧ (∃ a m k, v = .slice a m k) ∧ TysF W.heap.size w' (tmplF s).1 v
theorem txt_len0 {σ : Ey} (hc : σ.c = 0) (hA : AllT σ.l) (h : txt σ = emp) : σ.l.length = 0 := by
  cases hl : σ.l with
  | nil => rfl
  | cons t r =>
    rw [txt_cons hc hl] at h
    have := (hA t (by rw [hl]; simp)).1
    rw [h] at this
    exact absurd this (by decide)
theorem txt_len1 {σ : Ey} (h : txt σ ≠ emp) : 0 < σ.l.length := by
  obtain ⟨_, t, r, hl, _⟩ := txt_some h
  rw [hl]; simp
set_option maxRecDepth 100000 in
set_option maxHeartbeats 8000000 in
theorem tParse_any (s : ByteArray) (hs : s.size ≤ 4000) (hf : s.size ≤ 900 ∨ 3000 < s.size) (W : World) (hm : HomeM W) (hL : LH W.heap.size W) : Calls Tryz.prog 16 #[.string s] W (EtP s W) := by
  have B0 : Below W.heap.size W (W.alloc (.cells #[.nilIface] 31)) := (Below.refl _ _).alloc (Nat.le_refl _) _
  have C := Lib.hid (lexRead_any s hs _ (hm.below B0))
  have HL := Lib.hid hL
  have HB0 := Lib.hid B0
  have E0 := Lib.hid (show (W.alloc (.cells #[.nilIface] 31)).heap[W.heap.size]? = some (.cells #[.nilIface] 31) from heap_alloc_new _ _)
  have HAl := Lib.hid (allT_rl hf)
  clear hm hL B0
  go_enter_defers Tryz.func16, Tryz.ntmps16
  go_upto_region 1 with fail
  generalize W.alloc (.cells #[.nilIface] 31) = w0 at *
  go_wp2_with fail
  refine (C.out).mono ?_; rintro e w1 (⟨h0, G, lv, rfl, hR, hG, hb⟩ | ⟨h0, T, y, rfl, hE, hb⟩)
  · have HR := Lib.hid hR
    have B1 := Lib.hid (HB0.out.trans (hb.mono HB0.out.size))
    have E1 := Lib.hid ((hb.block _ (Array.getElem?_eq_some_iff.1 E0.out).1).trans E0.out)
    have e0 : w1.cell? ⟨W.heap.size, 0, none⟩ = some .nilIface := by unfold World.cell?; rw [E1.out]; rfl
    have e1 : w1.frozen? ⟨W.heap.size, 0, none⟩ = false := by unfold World.frozen?; rw [E1.out]; rfl
    have e2 := World.cell?_setCell_same (v := .nilIface) w1 ⟨W.heap.size, 0, none⟩ e0
    have S2 := Lib.hid (set_same E1.out)
    have R2 := Lib.hid (hR.below S2.out)
    have B2 := Lib.hid (B1.out.trans (S2.out.mono B1.out.size))
    have E2 := Lib.hid (set_heap (x := .nilIface) E1.out)
    have hWG : W.heap.size < G := Nat.lt_of_lt_of_le (Array.getElem?_eq_some_iff.1 E0.out).1 hG
    have L2 := Lib.hid (HL.out.keep fun k hk => B2.out.block k hk)
    obtain ⟨J, hJ⟩ : ∃ J, tloopF s.size 10 [] ⟨0, -1, rl s⟩ = J := ⟨_, rfl⟩
    have T1 := Lib.hid (fun (h2 : J.2.c ≠ 0) => tmplF_bad h0 hJ.symm h2)
    have T2 := Lib.hid (fun (h2 : J.2.c = 0) => tmplF_ok h0 hJ.symm h2)
    have HJ := Lib.hid hJ.symm
    clear C hR hb S2 hJ
    go_upto_region 4 with fail
    generalize w1.setCell ⟨W.heap.size, 0, none⟩ .nilIface = w2 at *
    have hG2 := R2.out.lt
    have hW2 := B2.out.size
    clear e0 e1 e2 E1 E0 HB0 B1 HR
    go_upto_region 5 with fail
    go_wp2_with fail
    go_loopw [5] (fun v wr => PqR J G s.size w2 ⟨0, -1, rl s⟩ v wr) (fun v _ => 17 - lenOf v)
    case atStart => exact ⟨lv, _, [], R2, Lib.hid (gb_refl w2 (some G)), Lib.hid (Tm0.refl _), Lib.hid (ownY_nil _ _), Nat.zero_le _, rfl, Lib.hid (awY_nil _ _ _), HJ⟩
    case round =>
      clear R2 HJ
      obtain ⟨lv4, τ4, l, h4, g4, U4, O4, hl8, hlo, W4, HJ⟩ := hrel
      obtain ⟨a4, cap4, rfl⟩ := O4.out.len
      have A4 := Lib.hid (U4.out.1 HAl.out)
      have hc4 := h4.out.ok
      have hgs := g4.out.size
      have L4 := Lib.hid (L2.out.grown (Nat.le_of_lt hWG) hW2 g4.out)
      go_wp2_with fail
      refine (Text_any h4.out).mono ?_; rintro e w5 ⟨rfl, hb⟩
      have h5 := Lib.hid (h4.out.below hb)
      have g5 := Lib.hid (gb_below (some G) hb)
      clear hb
      by_cases hte : txt τ4 = emp
      · have hl0 := txt_len0 hc4 A4.out hte
        have HRR := Lib.hid (T2.out (by rw [HJ.out, tloop_stop (.inr hl0)]; exact hc4))
        have HRR := Lib.hid (show tmplF s = (l.map (·.1), 0, -1) by rw [HRR.out, HJ.out, tloop_stop (.inr hl0)])
        have E5 := Lib.hid ((g5.out.block _ (by omega) (fun e => by injection e; omega)).trans ((g4.out.block _ (Array.getElem?_eq_some_iff.1 E2.out).1 (fun e => by injection e; omega)).trans E2.out))
        have hne : (Value.slice a4 l.length cap4).ownBlock ≠ some G := by
          intro e
          have := (World.ownsRow.lt O4.out G e).1
          omega
        have HT := Lib.hid (tys_of (O4.out.grown g5.out hne) (W4.out.grown g5.out hG2))
        have B5 := Lib.hid (B2.out.trans (show Below W.heap.size w2 w5 from ⟨(gb_trans g4.out g5.out).os, (gb_trans g4.out g5.out).tape, (gb_trans g4.out g5.out).output, (gb_trans g4.out g5.out).size, fun k hk => (gb_trans g4.out g5.out).block k (Nat.lt_of_lt_of_le hk B2.out.size) (fun e => by injection e; omega)⟩))
        obtain ⟨c0, c1⟩ := cell_box E5.out
        have c2 := World.cell?_setCell_same (v := .nilIface) w5 ⟨W.heap.size, 0, none⟩ c0
        rw [hte]
        unfold emp
        go_wp2_with fail
        refine leaves_cons (f := 27) (args := #[.pointer (some ⟨W.heap.size, 0, none⟩)]) (by simp) (by simp [go_sem]) ?_
        refine (Catch_idle ⟨W.heap.size, 0, none⟩ _).mono ?_
        rintro e u' w'' ⟨rfl, rfl, rfl⟩
        simp [Leaves, settle, results, Tryz.results16, go_sem, c2]
        unfold EtP
        rw [HRR.out]
        refine ⟨_, _, rfl, .inl ⟨rfl, rfl, rfl⟩, below_set_at B5.out (Nat.le_refl _), ⟨_, _, _, rfl⟩, ?_⟩
        exact Fw.low (Fw.later HT.out (by simp [World.setCell]) fun k h1 _ => Below.heap_setCell _ _ _ _ (show k ≠ W.heap.size by omega)) (by omega)
      · have hl1 := txt_len1 hte
        have ht2 := str_full (txt τ4) (by rcases Nat.eq_zero_or_pos (txt τ4).size with e | e; exact absurd (emp_iff.2 e) hte; exact e)
        have hte2 : ((txt τ4).toList == []) = false := by rw [beq_eq_false_iff_ne]; intro e; rw [e] at ht2; cases ht2
        have h10 : 10 - l.length = 9 - l.length + 1 := by omega
        have HJ := Lib.hid (show J = tloopF s.size (10 - (l.length + 1)) (l.map (·.1) ++ [(typsF s.size l.length τ4).1]) (typsF s.size l.length τ4).2 by have q := HJ.out; rw [h10, tloop_next hc4 hl1, List.length_map, show 9 - l.length = 10 - (l.length + 1) by omega] at q; exact q)
        obtain ⟨st, hst⟩ : ∃ st, txt τ4 = st := ⟨_, rfl⟩
        rw [hst] at hte2 ⊢
        have HST := Lib.hid hst
        clear h10 hte ht2 hst
        go_upto_region 7 with fail
        go_cut [25] from 15 to 44 (fun v wx => ∃ b : Bool, v = .bool b ∧ Hid (RS G s.size lv4 τ4 wx) ∧ Hid (wr.grownBy wx (some G)) ∧ Hid (b = decide (txt τ4 = ⟨#[115, 116, 114, 117, 99, 116]⟩ ∧ 8 ≤ l.length)))
        case first =>
          go_wp2_with fail
          refine (Text_any h5.out).mono ?_; rintro e w6 ⟨rfl, hb⟩
          rw [HST.out]
          have h6 := Lib.hid (h5.out.below hb)
          have g6 := Lib.hid (gb_trans g5.out (gb_below (some G) hb))
          clear hb
          by_cases c1 : st = ⟨#[115, 116, 114, 117, 99, 116]⟩
          · have e1 : (st.toList == [115, 116, 114, 117, 99, 116]) = true := tl_yes (a := #[115, 116, 114, 117, 99, 116]) c1
            have HU := Lib.hid (HST.out.trans c1)
            clear c1
            by_cases c2 : 8 ≤ l.length
            · have d2 : ((l.length : Int) == 8) = true := by rw [beq_iff_eq]; omega
              go_wp2_with fail
              go_meet
              exact ⟨true, by first | rfl | simp [d2], h6, g6, Lib.hid (decide_eq_true ⟨HU.out, c2⟩).symm⟩
            · have d2 : ((l.length : Int) == 8) = false := by rw [beq_eq_false_iff_ne]; omega
              go_wp2_with fail
              go_meet
              exact ⟨false, by first | rfl | simp [d2], h6, g6, Lib.hid (decide_eq_false (fun h => c2 h.2)).symm⟩
          · have e1 : (st.toList == [115, 116, 114, 117, 99, 116]) = false := tl_no (a := #[115, 116, 114, 117, 99, 116]) c1
            have HU := Lib.hid (show txt τ4 ≠ ⟨#[115, 116, 114, 117, 99, 116]⟩ by rw [HST.out]; exact c1)
            clear c1
            go_wp2_with fail
            go_meet
            exact ⟨false, rfl, h6, g6, Lib.hid (decide_eq_false (fun h => HU.out h.1)).symm⟩
        case rest =>
          obtain ⟨b, rfl, h6, g6, B6⟩ := hcut
          have HGr := Lib.hid h4.out.lt
          clear h5 g5 h4 hte2
          have HJs := Lib.hid (show ∀ σ, (must s.size (headF8 s.size l.length τ4) ⟨#[115, 116, 114, 117, 99, 116]⟩) = σ → σ.c ≠ 0 → J.2 = σ from fun σ e hc => by
            have e2 : (typsF s.size l.length τ4).2 = σ := by
              show (typF s.size _ (nameF s.size (must s.size (headF8 s.size l.length τ4) ⟨#[115, 116, 114, 117, 99, 116]⟩))).2 = σ
              rw [e, typF_stop (by rw [nameF_stop hc]; exact hc), nameF_stop hc]
            rw [HJ.out, e2, tloop_stop (.inl hc)])
          cases b with
          | true =>
            have HJ2 := Lib.hid (show J.2 = ⟨4, (pos s.size τ4 : Nat), τ4.l⟩ from HJs.out _ (by
              have h4 : (⟨4, (pos s.size τ4 : Nat), τ4.l⟩ : Ey).c ≠ 0 := show (4 : Int) ≠ 0 by decide
              rw [headF8, if_pos (of_decide_eq_true B6.out.symm), wrong, if_pos hc4, must_stop h4 (by decide)]) (show (4 : Int) ≠ 0 by decide))
            go_wp2_with fail
            refine (At_any h6.out).mono ?_; rintro e w7 ⟨rfl, hb⟩
            have g7 := Lib.hid (gb_trans g6.out (gb_below (some G) hb))
            clear hb
            go_wp2_with fail
            refine (Fail_any _ _ _).mono ?_; rintro e w8 ⟨⟨b9, rfl, q0, q1⟩, hb⟩
            have hg := gb_trans (gb_trans g4.out g7.out) (gb_below (some G) hb)
            have HRR := Lib.hid (show tmplF s = ([], 4, ((pos s.size τ4 : Nat) : Int)) by rw [T1.out (by rw [HJ2.out]; exact (show (4 : Int) ≠ 0 by decide)), HJ2.out])
            have E9 := Lib.hid ((hg.block _ (Array.getElem?_eq_some_iff.1 E2.out).1 (fun e => by injection e; omega)).trans E2.out)
            have B9 := Lib.hid (B2.out.trans (show Below W.heap.size w2 w8 from ⟨hg.os, hg.tape, hg.output, hg.size, fun k hk => hg.block k (Nat.lt_of_lt_of_le hk B2.out.size) (fun e => by injection e; omega)⟩))
            obtain ⟨c0, c1⟩ := cell_box E9.out
            have D9 := Lib.hid (lex_thrown B9.out (Nat.le_refl _) E9.out q0 q1)
            clear q0 q1 hg
            go_wp2_with fail
            refine leaves_cons (f := 27) (args := #[.pointer (some ⟨W.heap.size, 0, none⟩)]) (by simp) (by simp [go_sem]) ?_
            refine (Catch_thrown ⟨W.heap.size, 0, none⟩ .nilIface b9 _ c0 c1).mono ?_
            rintro e u' w'' ⟨rfl, rfl, rfl⟩
            simp [Leaves, settle, results, Tryz.results16, go_sem, D9.out.2.2]
            unfold EtP
            rw [HRR.out]
            exact ⟨_, _, rfl, D9.out.1, D9.out.2.1, ⟨_, _, _, rfl⟩, tysF_nil _ _⟩
          | false =>
            have HO := Lib.hid (show headF8 s.size l.length τ4 = τ4 from if_neg (of_decide_eq_false B6.out.symm))
            have H8 := Lib.hid (of_decide_eq_false B6.out.symm)
            rw [HO.out] at HJs
            have HJ := Lib.hid (show J = tloopF s.size (10 - (l.length + 1)) (l.map (·.1) ++ [(typF s.size (pos s.size (must s.size τ4 ⟨#[115, 116, 114, 117, 99, 116]⟩)) (nameF s.size (must s.size τ4 ⟨#[115, 116, 114, 117, 99, 116]⟩))).1]) (typF s.size (pos s.size (must s.size τ4 ⟨#[115, 116, 114, 117, 99, 116]⟩)) (nameF s.size (must s.size τ4 ⟨#[115, 116, 114, 117, 99, 116]⟩))).2 by
              rw [HJ.out]
              show tloopF s.size _ (l.map (·.1) ++ [(typF s.size (pos s.size (must s.size (headF8 s.size l.length τ4) ⟨#[115, 116, 114, 117, 99, 116]⟩)) (nameF s.size (must s.size (headF8 s.size l.length τ4) ⟨#[115, 116, 114, 117, 99, 116]⟩))).1]) (typF s.size (pos s.size (must s.size (headF8 s.size l.length τ4) ⟨#[115, 116, 114, 117, 99, 116]⟩)) (nameF s.size (must s.size (headF8 s.size l.length τ4) ⟨#[115, 116, 114, 117, 99, 116]⟩))).2 = _
              rw [HO.out])
            clear HO B6
            go_wp2_with fail
            refine (Must_any h6.out ⟨#[115, 116, 114, 117, 99, 116]⟩ (by decide)).mono ?_; rintro e w7 ⟨hg, ⟨rfl, lv7, hr⟩ | ⟨hc, b9, rfl, q0, q1⟩⟩
            · have h7 := Lib.hid hr
              have g7 := Lib.hid (gb_trans g6.out hg)
              have U7 := Lib.hid (must_0 s.size τ4 ⟨#[115, 116, 114, 117, 99, 116]⟩)
              have hl7 : l.length ≤ 7 := by
                obtain ⟨m1, _, _⟩ := must_got (s := ⟨#[115, 116, 114, 117, 99, 116]⟩) (by decide) hr.ok
                have := fun h => H8.out ⟨m1, h⟩
                exact Nat.le_of_lt_succ (Nat.lt_of_not_le this)
              clear hg hr h6 g6 HJs H8
              generalize must s.size τ4 ⟨#[115, 116, 114, 117, 99, 116]⟩ = τ7 at *
              have A7 := Lib.hid (U7.out.1 A4.out)
              go_wp2_with fail
              refine (At_any h7.out).mono ?_; rintro e w8 ⟨rfl, hb⟩
              have h8 := Lib.hid (h7.out.below hb)
              have g8 := Lib.hid (gb_trans g7.out (gb_below (some G) hb))
              obtain ⟨kp, hkp⟩ : ∃ k, pos s.size τ7 = k := ⟨_, rfl⟩
              have HJ := Lib.hid (show J = tloopF s.size (10 - (l.length + 1)) (l.map (·.1) ++ [(typF s.size kp (nameF s.size τ7)).1]) (typF s.size kp (nameF s.size τ7)).2 by rw [← hkp]; exact HJ.out)
              rw [hkp]
              clear hb h7 g7 hkp
              have hGr := HGr.out
              go_upto_region 11 with fail
              have S9 := Lib.hid (show YZ wr G s.size w8.heap.size lv7 τ7 [.string ⟨#[]⟩, .int .i64 (kp : Nat), .slice none 0 0] (w8.alloc (.cells #[.string ⟨#[]⟩, .int .i64 (kp : Nat), .slice none 0 0] 50)) from
                ⟨h8.out.below ((Below.refl _ _).alloc (Nat.le_refl _) _), gb_trans g8.out (gb_below _ ((Below.refl _ _).alloc (Nat.le_refl _) _)), heap_alloc_new _ _, g8.out.size, hGr⟩)
              have hX9 : w8.heap.size < (w8.alloc (.cells #[.string ⟨#[]⟩, .int .i64 (kp : Nat), .slice none 0 0] 50)).heap.size := by simp
              generalize w8.alloc (.cells #[.string ⟨#[]⟩, .int .i64 (kp : Nat), .slice none 0 0] 50) = w9 at *
              generalize w8.heap.size = X at *
              clear h8 g8
              go_wp2_with fail
              refine (nameP_any S9.out.rs A7.out).mono ?_; rintro e w10 ⟨hg, ⟨rfl, lv10, hr⟩ | ⟨hc, b9, rfl, q0, q1⟩⟩
              · have S10 := Lib.hid (S9.out.step hg hr)
                have hX10 := Nat.lt_of_lt_of_le hX9 hg.size
                have U10 := Lib.hid (name_0 s.size τ7)
                have A10 := Lib.hid ((name_0 s.size τ7).1 A7.out)
                generalize nameF s.size τ7 = r10 at *
                obtain ⟨n10, τ10⟩ := r10
                have HJ := Lib.hid (show J = tloopF s.size (10 - (l.length + 1)) (l.map (·.1) ++ [⟨n10, kp, (blkF (τ10.l.length + 1) s.size 1 τ10).1⟩]) (blkF (τ10.l.length + 1) s.size 1 τ10).2 from HJ.out)
                simp only at S10 U10 A10
                clear hg hr S9
                have y0 : w10.cell? ⟨X, 0, none⟩ = some (.string ⟨#[]⟩) := S10.out.bx.cell 0
                have f0 := S10.out.bx.free 0
                go_upto_region 12 with fail
                have S11 := Lib.hid (S10.out.set 0 (.string n10))
                have hX11 : X < (w10.setCell ⟨X, 0, none⟩ (.string n10)).heap.size := by simpa [World.setCell] using hX10
                clear S10 y0 f0
                generalize w10.setCell ⟨X, 0, none⟩ (.string n10) = w11 at *
                have hB := Lib.hid (blockP_ok (τ10.l.length + 1) W.heap.size G s.size lv10 τ10 w11 1 ⟨S11.out.rs, L4.out.grown (Nat.le_of_lt hWG) (by omega) S11.out.gb, Nat.le_of_lt hWG, A10.out, hs⟩ (by omega) (Nat.lt_succ_self _))
                have hB : Hid (Calls Tryz.prog 47 #[.pointer (some ⟨G, 0, none⟩), .int .i64 1] w11 (BqP (blkF (τ10.l.length + 1) s.size 1 τ10) G s.size w11)) := hB
                have U12 := Lib.hid (U10.out.trans (blk_0 (τ10.l.length + 1) s.size 1 τ10))
                generalize blkF (τ10.l.length + 1) s.size 1 τ10 = r12 at *
                obtain ⟨l12, τ12⟩ := r12
                go_wp2_with fail
                refine (hB.out).mono ?_; rintro e w12 ⟨hg, ⟨v12, lv12, rfl, hr, ⟨ai, mi, ci, rfl⟩, hl16, hxf⟩ | ⟨hc, b9, rfl, q0, q1⟩⟩
                · have S12 := Lib.hid (S11.out.step hg hr)
                  have X12 := Lib.hid hxf
                  clear hg hr hxf S11 hB
                  simp only at S12 X12 HJ U12
                  have y2 : w12.cell? ⟨X, 2, none⟩ = some (.slice none 0 0) := S12.out.bx.cell 2
                  have f2 := S12.out.bx.free 2
                  go_upto_region 13 with fail
                  have S13 := Lib.hid (S12.out.set 2 (.slice ai mi ci))
                  have X13 := Lib.hid (show ItsF wr.heap.size (w12.setCell ⟨X, 2, none⟩ (.slice ai mi ci)) l12 (.slice ai mi ci) from Fw.low (Fw.later X12.out (by simp [World.setCell]) fun k h1 _ => Below.heap_setCell _ _ _ _ (show k ≠ X by omega)) (Nat.le_trans S12.out.hX (Nat.le_of_lt hX11)))
                  clear S12 y2 f2 X12
                  generalize w12.setCell ⟨X, 2, none⟩ (.slice ai mi ci) = w13 at *
                  have hne : (Value.slice a4 l.length cap4).ownBlock ≠ some G := by
                    intro e
                    have := (World.ownsRow.lt O4.out G e).1
                    omega
                  have O13 := Lib.hid (O4.out.grown S13.out.gb hne)
                  have x0 : w13.cell? ⟨X, 0, none⟩ = some (.string n10) := S13.out.bx.cell 0
                  have x1 : w13.cell? ⟨X, 1, none⟩ = some (.int .i64 (kp : Nat)) := S13.out.bx.cell 1
                  have x2 : w13.cell? ⟨X, 2, none⟩ = some (.slice ai mi ci) := S13.out.bx.cell 2
                  have s13 := S13.out.gb.size
                  go_wp2_with (at_builtin; refine ownY_append1 rfl _ _ rfl w2.heap.size (.slice a4 l.length cap4) l rfl (O13.out.alloc _) _ 1 (⟨n10, kp, l12⟩, .slice ai mi ci) rfl (heap_alloc_new _ _) rfl (by omega) (by simp; omega) ?_; intro v8 w14 ho8 hg8 hb8 hat8; have O8 := Lib.hid ho8; have G8 := Lib.hid hg8; have B8 := Lib.hid hb8; have AT8 := Lib.hid hat8; clear ho8 hg8 hb8 hat8)
                  obtain ⟨a8, cap8, rfl⟩ := O8.out.len
                  have hb13 := Lib.hid ((Below.refl w13.heap.size w13).alloc (Nat.le_refl _) (.cells #[.string n10, .int .i64 (kp : Nat), .slice ai mi ci] 50))
                  have p13 := Lib.hid (S13.out.rs.below hb13.out)
                  have g13 := Lib.hid (gb_trans (gb_trans g4.out S13.out.gb) (gb_below (some G) hb13.out))
                  have hp8 := rs_keep p13.out (fun k hk => B8.out.block k (by omega)) (Nat.lt_of_lt_of_le p13.out.lt B8.out.size)
                  refine ⟨⟨lv12, τ12, _, Lib.hid hp8, Lib.hid (gb_low g13.out B8.out), Lib.hid (U4.out.trans (U7.out.trans U12.out)), O8, by simp; omega, by simp [lenOf], Lib.hid ?_, Lib.hid (by rw [HJ.out]; simp)⟩, ?_⟩
                  · exact awY_next W4.out X13.out (fun k e => (World.ownsRow.lt O4.out k e).2) hgs S13.out.gb hG2 hb13.out G8.out AT8.out
                  · simp only [lenOf, List.length_append, List.length_singleton]
                    omega
                · have HJ2 := Lib.hid (show J.2 = τ12 by rw [HJ.out, tloop_stop (.inl hc)])
                  have hg := gb_trans g4.out (gb_trans S11.out.gb hg)
                  have HRR := Lib.hid (show tmplF s = ([], τ12.c, τ12.a) by rw [T1.out (by rw [HJ2.out]; exact hc), HJ2.out])
                  have E9 := Lib.hid ((hg.block _ (Array.getElem?_eq_some_iff.1 E2.out).1 (fun e => by injection e; omega)).trans E2.out)
                  have B9 := Lib.hid (B2.out.trans (show Below W.heap.size w2 w12 from ⟨hg.os, hg.tape, hg.output, hg.size, fun k hk => hg.block k (Nat.lt_of_lt_of_le hk B2.out.size) (fun e => by injection e; omega)⟩))
                  obtain ⟨c0, c1⟩ := cell_box E9.out
                  have D9 := Lib.hid (lex_thrown B9.out (Nat.le_refl _) E9.out q0 q1)
                  clear q0 q1 hg
                  go_wp2_with fail
                  refine leaves_cons (f := 27) (args := #[.pointer (some ⟨W.heap.size, 0, none⟩)]) (by simp) (by simp [go_sem]) ?_
                  refine (Catch_thrown ⟨W.heap.size, 0, none⟩ .nilIface b9 _ c0 c1).mono ?_
                  rintro e u' w'' ⟨rfl, rfl, rfl⟩
                  simp [Leaves, settle, results, Tryz.results16, go_sem, D9.out.2.2]
                  unfold EtP
                  rw [HRR.out]
                  exact ⟨_, _, rfl, D9.out.1, D9.out.2.1, ⟨_, _, _, rfl⟩, tysF_nil _ _⟩
              · have HJ2 := Lib.hid (show J.2 = (nameF s.size τ7).2 by rw [HJ.out, typF_stop hc, tloop_stop (.inl hc)])
                have hg := gb_trans g4.out (gb_trans S9.out.gb hg)
                have HRR := Lib.hid (show tmplF s = ([], (nameF s.size τ7).2.c, (nameF s.size τ7).2.a) by rw [T1.out (by rw [HJ2.out]; exact hc), HJ2.out])
                have E9 := Lib.hid ((hg.block _ (Array.getElem?_eq_some_iff.1 E2.out).1 (fun e => by injection e; omega)).trans E2.out)
                have B9 := Lib.hid (B2.out.trans (show Below W.heap.size w2 w10 from ⟨hg.os, hg.tape, hg.output, hg.size, fun k hk => hg.block k (Nat.lt_of_lt_of_le hk B2.out.size) (fun e => by injection e; omega)⟩))
                obtain ⟨c0, c1⟩ := cell_box E9.out
                have D9 := Lib.hid (lex_thrown B9.out (Nat.le_refl _) E9.out q0 q1)
                clear q0 q1 hg
                go_wp2_with fail
                refine leaves_cons (f := 27) (args := #[.pointer (some ⟨W.heap.size, 0, none⟩)]) (by simp) (by simp [go_sem]) ?_
                refine (Catch_thrown ⟨W.heap.size, 0, none⟩ .nilIface b9 _ c0 c1).mono ?_
                rintro e u' w'' ⟨rfl, rfl, rfl⟩
                simp [Leaves, settle, results, Tryz.results16, go_sem, D9.out.2.2]
                unfold EtP
                rw [HRR.out]
                exact ⟨_, _, rfl, D9.out.1, D9.out.2.1, ⟨_, _, _, rfl⟩, tysF_nil _ _⟩
            · have HJ2 := Lib.hid (HJs.out _ rfl hc)
              have hg := gb_trans g4.out (gb_trans g6.out hg)
              have HRR := Lib.hid (show tmplF s = ([], (must s.size τ4 ⟨#[115, 116, 114, 117, 99, 116]⟩).c, (must s.size τ4 ⟨#[115, 116, 114, 117, 99, 116]⟩).a) by rw [T1.out (by rw [HJ2.out]; exact hc), HJ2.out])
              have E9 := Lib.hid ((hg.block _ (Array.getElem?_eq_some_iff.1 E2.out).1 (fun e => by injection e; omega)).trans E2.out)
              have B9 := Lib.hid (B2.out.trans (show Below W.heap.size w2 w7 from ⟨hg.os, hg.tape, hg.output, hg.size, fun k hk => hg.block k (Nat.lt_of_lt_of_le hk B2.out.size) (fun e => by injection e; omega)⟩))
              obtain ⟨c0, c1⟩ := cell_box E9.out
              have D9 := Lib.hid (lex_thrown B9.out (Nat.le_refl _) E9.out q0 q1)
              clear q0 q1 hg
              go_wp2_with fail
              refine leaves_cons (f := 27) (args := #[.pointer (some ⟨W.heap.size, 0, none⟩)]) (by simp) (by simp [go_sem]) ?_
              refine (Catch_thrown ⟨W.heap.size, 0, none⟩ .nilIface b9 _ c0 c1).mono ?_
              rintro e u' w'' ⟨rfl, rfl, rfl⟩
              simp [Leaves, settle, results, Tryz.results16, go_sem, D9.out.2.2]
              unfold EtP
              rw [HRR.out]
              exact ⟨_, _, rfl, D9.out.1, D9.out.2.1, ⟨_, _, _, rfl⟩, tysF_nil _ _⟩
  · have HE := Lib.hid hE
    have B1 := Lib.hid (HB0.out.trans (hb.mono HB0.out.size))
    have E1 := Lib.hid ((hb.block _ (Array.getElem?_eq_some_iff.1 E0.out).1).trans E0.out)
    have e0 : w1.cell? ⟨W.heap.size, 0, none⟩ = some .nilIface := by unfold World.cell?; rw [E1.out]; rfl
    have e1 : w1.frozen? ⟨W.heap.size, 0, none⟩ = false := by unfold World.frozen?; rw [E1.out]; rfl
    have hpf := Lib.hid (tmplF_lex h0)
    clear C hE hb
    have e2 := World.cell?_setCell_same (v := .iface T y) w1 ⟨W.heap.size, 0, none⟩ e0
    have e3 : (w1.setCell ⟨W.heap.size, 0, none⟩ (.iface T y)).frozen? ⟨W.heap.size, 0, none⟩ = false := by rw [frozen?_setCell]; exact e1
    have E2 := Lib.hid (set_heap (x := .iface T y) E1.out)
    have S2 := Lib.hid (set_same E2.out)
    have HE2 := Lib.hid (err_set (x := .iface T y) HE.out E1.out)
    have B2 := Lib.hid (below_set_at (j := 0) (v := .iface T y) B1.out (Nat.le_refl _))
    have HE3 := Lib.hid (HE2.out.below S2.out)
    have B3 := Lib.hid (B2.out.trans (S2.out.mono B2.out.size))
    have e4 := World.cell?_setCell_same (v := .iface T y) (w1.setCell ⟨W.heap.size, 0, none⟩ (.iface T y)) ⟨W.heap.size, 0, none⟩ e2
    go_upto_region 3 with fail
    clear e0 e1
    generalize w1.setCell ⟨W.heap.size, 0, none⟩ (.iface T y) = w2 at *
    go_region
    go_wp2_with fail
    simp [bodyPostD, Leaves, results, Tryz.results16, go_sem, e4]
    unfold EtP
    rw [hpf.out]
    exact ⟨_, _, rfl, HE3.out.below ((Below.refl _ _).drew), B3.out.drew, ⟨_, _, _, rfl⟩, tysF_nil _ _⟩
end Go.Proofs.YtofmheeiplagjaaGreatDoor.Tm
