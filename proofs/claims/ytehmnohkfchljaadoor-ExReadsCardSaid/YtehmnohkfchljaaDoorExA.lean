/-
  PROVED HERE: what command a line is, in plain Lean. Conditions: as each theorem states.
-/
import Derived.Test.YtehmnohkfchljaaDoorExW
import Derived.Test.YtehmnohkfchljaaDoorSpl
import Derived.Test.YtehmnohkfchljaaDoorParC
import Derived.Test.YtehmnohkfchljaaDoorHexU
namespace Go.Proofs.YtehmnohkfchljaaDoor.Ex
open Go.RowKit Dig
/-- A number, its error; bytes; a way. -/
def num (t : ByteArray) : Int := nv (nneg t) (pv (nu (nt t)) (nb (nt t))) (pe (nu (nt t)) (nb (nt t)))
def nume (t : ByteArray) : Int := ne (nneg t) (pv (nu (nt t)) (nb (nt t))) (pe (nu (nt t)) (nb (nt t)))
def un (t : ByteArray) : Un := uh t t.size 0 []
def byt (t : ByteArray) : Option ByteArray := if t.toList = [45] then some ⟨#[]⟩ else if (un t).err = 0 then some (un t).str else none
def pt : List ByteArray → List Int → Option (List Int)
  | [], l => some l
  | t :: r, l => if pe t 10 ≠ 0 then none else pt r (l ++ [((pv t 10 % 4611686018427387904 : Nat) : Int)])
theorem pt_bad {t : ByteArray} {r : List ByteArray} {l : List Int} (h : pe t 10 ≠ 0) : pt (t :: r) l = none := by rw [pt, if_pos h]
theorem pt_go {t : ByteArray} {r : List ByteArray} {l : List Int} (h : pe t 10 = 0) : pt (t :: r) l = pt r (l ++ [((pv t 10 % 4611686018427387904 : Nat) : Int)]) := by rw [pt, if_neg (by simpa using h)]
def pth (t : ByteArray) : Option (List Int) := if t.toList = [45] then some [] else pt (Spl.PS 46 t) []
/-- What stands behind a word: 0 a number, 1 bytes, 2 a way. -/
def frm (w : List UInt8) : Option (List Nat) :=
  if w = [100] ∨ w = [121] then some [0, 0] else if w = [102, 105, 108, 108] then some [0, 0, 1] else if w = [115] then some [1, 1]
  else if w = [115, 101, 116] then some [2, 0] else if w = [112, 117, 116] then some [2, 1] else if w = [100, 117, 112] ∨ w = [100, 114, 111, 112] then some [2]
  else if w = [102, 105, 120] then some [] else if w = [117, 110, 100, 111] then some [0] else if w = [102, 111, 114, 99, 101] then some [0, 0] else none
/-- The forms that there are: the way stands first. -/
def isForm (ks : List Nat) : Prop := ks.length ≤ 3 ∧ (∀ k ∈ ks, k < 3) ∧ ∀ i, ks[i]? = some 2 → i = 0
theorem frm_form {w : List UInt8} {ks : List Nat} (h : frm w = some ks) : isForm ks := by
  have key : ∀ l : List Nat, l ∈ [[0, 0], [0, 0, 1], [1, 1], [2, 0], [2, 1], [2], [], [0]] → isForm l := by
    intro l hl
    simp only [List.mem_cons, List.not_mem_nil, or_false] at hl
    rcases hl with rfl | rfl | rfl | rfl | rfl | rfl | rfl | rfl
    all_goals refine ⟨by decide, by decide, ?_⟩
    all_goals intro i hi
    all_goals rcases i with _ | _ | _ | i
    all_goals simp at hi ⊢
  apply key
  unfold frm at h
  repeat' split at h
  all_goals first | (cases h; done) | (injection h with h; subst h; decide)
/-- The letters of a form. -/
def fs (m : Nat → UInt8) (ks : List Nat) : ByteArray := ⟨(ks.map m).toArray⟩
def lp : Nat → UInt8 | 0 => 110 | 1 => 98 | _ => 112
def ld : Nat → UInt8 | 0 => 78 | 1 => 66 | _ => 80
theorem fs_size (m : Nat → UInt8) (ks : List Nat) : (fs m ks).size = ks.length := by simp [fs, ByteArray.size]
theorem fs_byte (m : Nat → UInt8) (ks : List Nat) (i : Nat) (h : i < ks.length) : byteAt (fs m ks) i = (m ks[i]).toNat := by
  unfold fs
  rw [byteAt_list]
  simp [h]
/-- What the words behind the first one tell, by the form. -/
def go : List Nat → List ByteArray → List Int → List ByteArray → List Int → Option (List Int × List ByteArray × List Int)
  | k :: ks, t :: ts, N, B, Q =>
    if k = 0 then (if nume t ≠ 0 then none else go ks ts (N ++ [num t]) B Q)
    else if k = 1 then (match byt t with | none => none | some b => go ks ts N (B ++ [b]) Q)
    else (match pth t with | none => none | some q => go ks ts N B q)
  | _, _, N, B, Q => some (N, B, Q)
section
variable {ks : List Nat} {t : ByteArray} {ts : List ByteArray} {N Q q : List Int} {B : List ByteArray} {b : ByteArray}
theorem go_end (ts : List ByteArray) (N : List Int) (B : List ByteArray) (Q : List Int) : go [] ts N B Q = some (N, B, Q) := by rw [go]; intros; simp_all
theorem go_num (h : nume t = 0) : go (0 :: ks) (t :: ts) N B Q = go ks ts (N ++ [num t]) B Q := by rw [go, if_pos rfl, if_neg (by simpa using h)]
theorem go_num_bad (h : nume t ≠ 0) : go (0 :: ks) (t :: ts) N B Q = none := by rw [go, if_pos rfl, if_pos h]
theorem go_byt (h : byt t = some b) : go (1 :: ks) (t :: ts) N B Q = go ks ts N (B ++ [b]) Q := by rw [go, if_neg (by decide), if_pos rfl, h]
theorem go_byt_bad (h : byt t = none) : go (1 :: ks) (t :: ts) N B Q = none := by rw [go, if_neg (by decide), if_pos rfl, h]
theorem go_way (h : pth t = some q) : go (2 :: ks) (t :: ts) N B Q = go ks ts N B q := by rw [go, if_neg (by decide), if_neg (by decide), h]
theorem go_way_bad (h : pth t = none) : go (2 :: ks) (t :: ts) N B Q = none := by rw [go, if_neg (by decide), if_neg (by decide), h]
end
/-- The command: its error, word, numbers, bytes, way. -/
structure Cmd where
  e : Int
  w : ByteArray
  n : List Int
  b : List ByteArray
  q : List Int
def bad : Cmd := ⟨3, ⟨#[]⟩, [], [], []⟩
def fin (w : ByteArray) : Option (List Int × List ByteArray × List Int) → Cmd
  | none => bad
  | some r => ⟨0, w, r.1, r.2.1, r.2.2⟩
def cmd (ws : List ByteArray) : Cmd :=
  match ws with
  | [] => bad
  | w :: r => if r = [] ∧ nume w = 0 then ⟨0, ⟨#[103, 111]⟩, [num w], [], []⟩ else
    match frm w.toList with
    | none => bad
    | some ks => if ks.length ≠ r.length then bad else fin w (go ks r [] [] [])
theorem cmd_go {w : ByteArray} (h : nume w = 0) : cmd [w] = ⟨0, ⟨#[103, 111]⟩, [num w], [], []⟩ := by rw [cmd, if_pos ⟨rfl, h⟩]
theorem cmd_none {w : ByteArray} {r : List ByteArray} (h : r = [] → nume w ≠ 0) (h2 : frm w.toList = none) : cmd (w :: r) = bad := by
  rw [cmd, if_neg (fun c => h c.1 c.2), h2]
theorem cmd_len {w : ByteArray} {r : List ByteArray} {ks : List Nat} (h : r = [] → nume w ≠ 0) (h2 : frm w.toList = some ks) (h3 : ks.length ≠ r.length) : cmd (w :: r) = bad := by
  rw [cmd, if_neg (fun c => h c.1 c.2), h2]
  exact if_pos h3
theorem cmd_fin {w : ByteArray} {r : List ByteArray} {ks : List Nat} (h : r = [] → nume w ≠ 0) (h2 : frm w.toList = some ks) (h3 : ks.length = r.length) : cmd (w :: r) = fin w (go ks r [] [] []) := by
  rw [cmd, if_neg (fun c => h c.1 c.2), h2]
  exact if_neg (by simpa using h3)
end Go.Proofs.YtehmnohkfchljaaDoor.Ex
