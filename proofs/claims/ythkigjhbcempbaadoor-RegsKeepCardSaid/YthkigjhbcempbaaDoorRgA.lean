/-
  PROVED HERE: maps from bytes to texts that a call owns, at the block: a look-up, an entry, its store, an update. Conditions: as each theorem states.
-/
import Derived.Test.YthkigjhbcempbaaDoorRows
import Derived.Test.YthkigjhbcempbaaDoorKpt
import Derived.Maps.OwnSet
import Derived.WideKeyEntry
import Derived.WalkKit
namespace Go.Proofs.YthkigjhbcempbaaDoor.Rg
open Go.RowKit Go.Maps Go.ChangeMaps Go.MapKept
def upd (f : Nat → ByteArray) (c : Nat) (s : ByteArray) : Nat → ByteArray := fun k => if k = c then s else f k
def bk (c : Nat) : Value := .int .u8 c
theorem bk_inj {a b : Nat} (h : bk a = bk b) : a = b := by
  unfold bk at h
  injection h with _ h
  omega
/-- The map in block b holds the texts f (an empty one: what is not there), in n entries at most. -/
def Mp (w : World) (b : Nat) (f : Nat → ByteArray) (n : Nat) : Prop :=
  ∃ es clock, w.heap[b]? = some (.map es clock) ∧ es.size ≤ n ∧ (∀ e ∈ es.toList, ∃ c, c < 256 ∧ e.key = bk c ∧ e.val = .string (f c)) ∧ (∀ c, c < 256 → (∀ e ∈ es.toList, e.key ≠ bk c) → f c = ⟨#[]⟩) ∧
    (es.toList.map (·.key)).Nodup ∧ (es.toList.map (·.born)).Nodup ∧ ∀ e ∈ es.toList, e.born < clock
/-- The entry at c bears the stamp st. -/
def St (w : World) (b c st : Nat) : Prop := ∃ es clock, w.heap[b]? = some (.map es clock) ∧ ∃ e ∈ es.toList, e.key = bk c ∧ e.born = st
theorem Mp.mono {w : World} {b n m : Nat} {f : Nat → ByteArray} (h : Mp w b f n) (hm : n ≤ m) : Mp w b f m := by
  obtain ⟨es, cl, h1, h2, r⟩ := h
  exact ⟨es, cl, h1, by omega, r⟩
theorem Mp.lt {w : World} {b n : Nat} {f : Nat → ByteArray} (h : Mp w b f n) : b < w.heap.size := by
  obtain ⟨es, cl, h1, _⟩ := h
  exact (Array.getElem?_eq_some_iff.1 h1).1
theorem Mp.keeps {S : Nat → Prop} {w w1 : World} {b n : Nat} {f : Nat → ByteArray} (h : Mp w b f n) (k : Keeps S w w1) (hb : ¬ S b) : Mp w1 b f n := by
  have hl := h.lt
  obtain ⟨es, cl, h1, r⟩ := h
  exact ⟨es, cl, (k.block b hl hb).trans h1, r⟩
theorem St.keeps {S : Nat → Prop} {w w1 : World} {b c st : Nat} (h : St w b c st) (k : Keeps S w w1) (hb : ¬ S b) : St w1 b c st := by
  obtain ⟨es, cl, h1, r⟩ := h
  exact ⟨es, cl, (k.block b (Array.getElem?_eq_some_iff.1 h1).1 hb).trans h1, r⟩
theorem Mp.congr {w : World} {b n : Nat} {f g : Nat → ByteArray} (h : Mp w b f n) (hfg : ∀ c, c < 256 → f c = g c) : Mp w b g n := by
  obtain ⟨es, cl, h1, h2, h3, h4, r⟩ := h
  refine ⟨es, cl, h1, h2, fun e he => ?_, fun c hc hn => ?_, r⟩
  · obtain ⟨c, hc, hk, hv⟩ := h3 e he
    exact ⟨c, hc, hk, by rw [hv, hfg c hc]⟩
  · rw [← hfg c hc]; exact h4 c hc hn
theorem set_keeps' (w : World) (b : Nat) (o : Obj) : Keeps (fun k => k = b) w (setBlock w b o) :=
  ⟨rfl, rfl, rfl, by simp [setBlock], fun k _ hn => by
    simp only [setBlock]
    rw [Array.getElem?_setIfInBounds_ne (fun e => hn e.symm)]⟩
theorem mp_made (w : World) : Mp (w.alloc (.map #[] 0)) w.heap.size (fun _ => ⟨#[]⟩) 0 := by
  refine ⟨#[], 0, heap_alloc_new _ _, Nat.le_refl _, fun e he => ?_, fun _ _ _ => rfl, ?_, ?_, fun e he => ?_⟩
  · cases he
  · exact List.nodup_nil
  · exact List.nodup_nil
  · cases he
section
variable {P : Program} {k e t : TypeId}
theorem keyof {k : TypeId} (hk : P.underlying k = some (.int .u8)) (c : Nat) (hc : c < 256) : keyOf P k (bk c) = some (.int .u8 c) := keyOf_int_mk hk (WalkArith.wf_u8 (by omega))
variable (hk : P.underlying k = some (.int .u8)) (ht : P.underlying t = some (.map k e)) (hz : ∀ u : World, (zeroValue e).run P u = .ok (.string ⟨#[]⟩) u)
include hk ht hz
theorem look_run {w : World} {b n : Nat} {f : Nat → ByteArray} (h : Mp w b f n) (c : Nat) (hc : c < 256) : (Instr.lookup t (.map (some b)) (bk c) false).run P w = .ok (.string (f c)) w := by
  have K := int_keyed hk
  obtain ⟨es, cl, hb, hn, h3, h4, _⟩ := h
  rcases K.find w (keyof hk c hc) es.toList (fun e he => by obtain ⟨d, hd, hkd, _⟩ := h3 e he; exact ⟨_, by rw [hkd]; exact keyof hk d hd⟩) with ⟨h1, h2⟩ | ⟨j, e0, h1, h2, hk0⟩
  · simp [Instr.lookup, run_underlying ht, MapKept.run_getObj_map hb, K.check w _ (keyof hk c hc), h1, hz, Result.andThen, h4 c hc h2]
  · obtain ⟨d, _, hkd, hv⟩ := h3 e0 (List.mem_of_getElem? h2)
    have : d = c := bk_inj (hkd.symm.trans hk0)
    subst this
    simp [Instr.lookup, run_underlying ht, MapKept.run_getObj_map hb, K.check w _ (keyof hk d hc), h1, Result.andThen, hv]
theorem entry_run {w : World} {b n : Nat} {f : Nat → ByteArray} (h : Mp w b f n) (c : Nat) (hc : c < 256) :
    ∃ (st : Nat) (w1 : World), (Instr.mapEntry t (.map (some b)) (bk c)).run P w = .ok (.tuple #[.string (f c), goInt st]) w1 ∧ Mp w1 b f (n + 1) ∧ St w1 b c st ∧ (∀ c' st', St w b c' st' → St w1 b c' st') ∧ Keeps (fun k => k = b) w w1 ∧ w1.heap.size = w.heap.size := by
  have K := int_keyed hk
  obtain ⟨es, cl, hb, hn, h3, h4, hd1, hd2, hlt⟩ := h
  have hbl : b < w.heap.size := (Array.getElem?_eq_some_iff.1 hb).1
  rcases K.find w (keyof hk c hc) es.toList (fun e he => by obtain ⟨d, hd, hkd, _⟩ := h3 e he; exact ⟨_, by rw [hkd]; exact keyof hk d hd⟩) with ⟨h1, h2⟩ | ⟨j, e0, h1, h2, hk0⟩
  · have hf := h4 c hc h2
    refine ⟨cl, setBlock w b (.map (es.push ⟨bk c, .string ⟨#[]⟩, cl⟩) (cl + 1)), ?_, ?_, ?_, ?_, set_keeps' _ _ _, by simp [setBlock]⟩
    · rw [hf]
      simp [Instr.mapEntry, run_underlying ht, MapKept.run_getObj_map hb, K.check w false (keyof hk c hc), h1, hz, MapKept.run_setObj_map _ hb, Result.andThen, setBlock]
    · refine ⟨_, _, heap_setBlock_same hb _, by simp; omega, fun e he => ?_, fun c' hc' hn' => ?_, ?_, ?_, fun e he => ?_⟩
      · rw [Array.toList_push, List.mem_append, List.mem_singleton] at he
        rcases he with he | rfl
        · exact h3 e he
        · exact ⟨c, hc, rfl, by rw [hf]⟩
      · exact h4 c' hc' (fun e he => hn' e (by rw [Array.toList_push]; exact List.mem_append_left _ he))
      · rw [Array.toList_push, List.map_append]
        refine List.nodup_append.2 ⟨hd1, by simp, fun a ha d hd e1 => ?_⟩
        simp only [List.map_cons, List.map_nil, List.mem_singleton] at hd
        obtain ⟨x, hx, rfl⟩ := List.mem_map.1 ha
        exact h2 x hx (e1.trans hd)
      · rw [Array.toList_push, List.map_append]
        refine List.nodup_append.2 ⟨hd2, by simp, fun a ha d hd e1 => ?_⟩
        simp only [List.map_cons, List.map_nil, List.mem_singleton] at hd
        obtain ⟨x, hx, rfl⟩ := List.mem_map.1 ha
        have := hlt x hx
        omega
      · rw [Array.toList_push, List.mem_append, List.mem_singleton] at he
        rcases he with he | rfl
        · have := hlt e he; omega
        · exact Nat.lt_succ_self _
    · exact ⟨_, _, heap_setBlock_same hb _, _, by rw [Array.toList_push]; exact List.mem_append_right _ List.mem_cons_self, rfl, rfl⟩
    · rintro c' st' ⟨es', cl', hb', e, he, hke, hbe⟩
      rw [hb] at hb'
      cases hb'
      exact ⟨_, _, heap_setBlock_same hb _, e, by rw [Array.toList_push]; exact List.mem_append_left _ he, hke, hbe⟩
  · have hj : es[j]? = some e0 := by simpa using h2
    have hm0 := List.mem_of_getElem? h2
    obtain ⟨d, _, hkd, hv⟩ := h3 e0 hm0
    have : d = c := bk_inj (hkd.symm.trans hk0)
    subst this
    have hsame : es.modify j (fun e => { e with key := bk d }) = es := by
      apply Array.ext'
      rw [Array.toList_modify, modify_eq_set _ _ _ _ h2]
      have : ({ e0 with key := bk d } : MapEntry) = e0 := by rw [← hk0]
      rw [this]
      exact WideElems.set_self _ _ _ h2
    have hself : setBlock w b (.map es cl) = w := by
      obtain ⟨hlt', hg⟩ := Array.getElem?_eq_some_iff.1 hb
      have : w.heap.setIfInBounds b (.map es cl) = w.heap := by
        apply Array.ext_getElem?
        intro i
        rw [Array.getElem?_setIfInBounds]
        split
        · rename_i hi; subst hi; exact hb.symm
        · rfl
      cases w
      simp only [setBlock] at *
      rw [this]
    refine ⟨e0.born, w, ?_, ⟨es, cl, hb, by omega, h3, h4, hd1, hd2, hlt⟩, ⟨es, cl, hb, e0, hm0, hk0, rfl⟩, fun _ _ h => h, Keeps.refl _ _, rfl⟩
    have := MapKept.run_setObj_map (P := P) (.map es cl) hb
    simp [Instr.mapEntry, run_underlying ht, MapKept.run_getObj_map hb, K.check w false (keyof hk d hc), h1, hj, hk0, K.stays w (keyof hk d hc), hsame, MapKept.run_setObj_map _ hb, Result.andThen, hv]
    exact hself
omit hz hk ht in
theorem store_run {w : World} {b n c st : Nat} {f : Nat → ByteArray} (h : Mp w b f n) (hs : St w b c st) (s : ByteArray) (hc : c < 256) :
    ∃ w1, (Instr.entryStore t (.map (some b)) (goInt st) (.string s)).run P w = .ok () w1 ∧ Mp w1 b (upd f c s) n ∧ (∀ c' st', St w b c' st' → St w1 b c' st') ∧ Keeps (fun k => k = b) w w1 ∧ w1.heap.size = w.heap.size := by
  obtain ⟨es, cl, hb, hn, h3, h4, hd1, hd2, hlt⟩ := h
  obtain ⟨es', cl', hb', e0, he0, hke, hbe⟩ := hs
  rw [hb] at hb'
  cases hb'
  obtain ⟨j, hjl, hje⟩ := List.getElem_of_mem he0
  have h2 : es.toList[j]? = some e0 := by rw [List.getElem?_eq_getElem hjl, hje]
  have hidx : es.findIdx? (fun e => ((e.born : Nat) : Int) == ((e0.born : Nat) : Int)) = some j := by
    rw [WideElems.findIdx_arr]
    exact WideElems.findIdx_born hd2 h2
  rw [hbe] at hidx
  have hlist : (es.modify j (fun e => { e with val := .string s })).toList = es.toList.set j { e0 with val := .string s } := by rw [Array.toList_modify, modify_eq_set _ _ _ _ h2]
  refine ⟨setBlock w b (.map (es.modify j (fun e => { e with val := .string s })) cl), ?_, ⟨_, _, heap_setBlock_same hb _, by simpa using hn, fun e he => ?_, fun c' hc' hn' => ?_, ?_, ?_, fun e he => ?_⟩, ?_, set_keeps' _ _ _, by simp [setBlock]⟩
  · simp [Instr.entryStore, MapKept.run_getObj_map hb, asInt, asIntOf, goInt, hidx, MapKept.run_setObj_map _ hb, Result.andThen, setBlock]
  · rw [hlist] at he
    obtain ⟨i, hi, ei⟩ := List.getElem_of_mem he
    rw [List.getElem_set] at ei
    split at ei
    · subst ei
      exact ⟨c, hc, hke, by unfold upd; rw [if_pos rfl]⟩
    · rename_i hij
      have hi' : i < es.toList.length := by simpa using hi
      obtain ⟨d, hd, hkd, hv⟩ := h3 e (by rw [← ei]; exact List.getElem_mem hi')
      refine ⟨d, hd, hkd, ?_⟩
      unfold upd
      rw [if_neg (fun edc => ?_)]
      · exact hv
      · subst edc
        have q := List.pairwise_iff_getElem.1 hd1
        rcases Nat.lt_or_gt_of_ne hij with hlt' | hlt'
        · refine q j i (by simpa using hjl) (by simpa using hi') hlt' ?_
          rw [List.getElem_map, List.getElem_map, hje, ei, hkd, hke]
        · refine q i j (by simpa using hi') (by simpa using hjl) hlt' ?_
          rw [List.getElem_map, List.getElem_map, hje, ei, hkd, hke]
  · unfold upd
    rw [if_neg (fun e => ?_)]
    · refine h4 c' hc' (fun e he hk' => ?_)
      obtain ⟨i, hi, ei⟩ := List.getElem_of_mem he
      by_cases hij : j = i
      · subst hij
        exact hn' { e0 with val := .string s } (by rw [hlist]; exact List.mem_iff_getElem.2 ⟨j, by simpa using hi, by rw [List.getElem_set_self]⟩) (by rw [← hje, ei]; exact hk')
      · exact hn' e (by rw [hlist]; exact List.mem_iff_getElem.2 ⟨i, by simpa using hi, by rw [List.getElem_set_ne hij]; exact ei⟩) hk'
    · subst e
      exact hn' { e0 with val := .string s } (by rw [hlist]; exact List.mem_iff_getElem.2 ⟨j, by simpa using hjl, by rw [List.getElem_set_self]⟩) hke
  · rw [hlist, List.map_set]
    have : (es.toList.map (·.key)).set j e0.key = es.toList.map (·.key) := WideElems.set_self _ _ _ (by rw [List.getElem?_map, h2]; rfl)
    rw [show ({ e0 with val := .string s } : MapEntry).key = e0.key from rfl, this]
    exact hd1
  · rw [hlist, List.map_set]
    have : (es.toList.map (·.born)).set j e0.born = es.toList.map (·.born) := WideElems.set_self _ _ _ (by rw [List.getElem?_map, h2]; rfl)
    rw [show ({ e0 with val := .string s } : MapEntry).born = e0.born from rfl, this]
    exact hd2
  · rw [hlist] at he
    rcases List.mem_or_eq_of_mem_set he with he | rfl
    · exact hlt e he
    · exact hlt e0 he0
  · rintro c' st' ⟨es', cl', hb', e, he, hk', hbo⟩
    rw [hb] at hb'
    cases hb'
    obtain ⟨i, hi, ei⟩ := List.getElem_of_mem he
    refine ⟨_, _, heap_setBlock_same hb _, ?_⟩
    rw [hlist]
    by_cases hij : j = i
    · subst hij
      exact ⟨{ e0 with val := .string s }, List.mem_iff_getElem.2 ⟨j, by simpa using hi, by rw [List.getElem_set_self]⟩, by rw [← hje, ei]; exact hk', by rw [← hje, ei]; exact hbo⟩
    · exact ⟨e, List.mem_iff_getElem.2 ⟨i, by simpa using hi, by rw [List.getElem_set_ne hij]; exact ei⟩, hk', hbo⟩
omit hz in
/-- An update: an entry and its store at once. -/
theorem update_run {w : World} {b n : Nat} {f : Nat → ByteArray} (h : Mp w b f n) (c : Nat) (hc : c < 256) (s : ByteArray) :
    ∃ w1, (Instr.mapUpdate t (.map (some b)) (bk c) (.string s)).run P w = .ok () w1 ∧ Mp w1 b (upd f c s) (n + 1) ∧ Keeps (fun k => k = b) w w1 ∧ w1.heap.size = w.heap.size := by
  have K := int_keyed hk
  have h' := h
  obtain ⟨es, cl, hb, hn, h3, h4, hd1, hd2, hlt⟩ := h'
  rcases K.find w (keyof hk c hc) es.toList (fun e he => by obtain ⟨d, hd, hkd, _⟩ := h3 e he; exact ⟨_, by rw [hkd]; exact keyof hk d hd⟩) with ⟨h1, h2⟩ | ⟨j, e0, h1, h2, hk0⟩
  · refine ⟨setBlock w b (.map (es.push ⟨bk c, .string s, cl⟩) (cl + 1)), ?_, ⟨_, _, heap_setBlock_same hb _, by simp; omega, fun e he => ?_, fun c' hc' hn' => ?_, ?_, ?_, fun e he => ?_⟩, set_keeps' _ _ _, by simp [setBlock]⟩
    · simp [Instr.mapUpdate, run_underlying ht, MapKept.run_getObj_map hb, K.check w false (keyof hk c hc), h1, MapKept.run_setObj_map _ hb, Result.andThen, setBlock]
    · rw [Array.toList_push, List.mem_append, List.mem_singleton] at he
      rcases he with he | rfl
      · obtain ⟨d, hd, hkd, hv⟩ := h3 e he
        refine ⟨d, hd, hkd, ?_⟩
        unfold upd
        rw [if_neg (fun edc => h2 e he (by rw [hkd, edc]))]
        exact hv
      · exact ⟨c, hc, rfl, by unfold upd; rw [if_pos rfl]⟩
    · unfold upd
      rw [if_neg (fun e => hn' ⟨bk c, .string s, cl⟩ (by rw [Array.toList_push]; exact List.mem_append_right _ List.mem_cons_self) (by rw [e]))]
      exact h4 c' hc' (fun e he => hn' e (by rw [Array.toList_push]; exact List.mem_append_left _ he))
    · rw [Array.toList_push, List.map_append]
      refine List.nodup_append.2 ⟨hd1, by simp, fun a ha d hd e1 => ?_⟩
      simp only [List.map_cons, List.map_nil, List.mem_singleton] at hd
      obtain ⟨x, hx, rfl⟩ := List.mem_map.1 ha
      exact h2 x hx (e1.trans hd)
    · rw [Array.toList_push, List.map_append]
      refine List.nodup_append.2 ⟨hd2, by simp, fun a ha d hd e1 => ?_⟩
      simp only [List.map_cons, List.map_nil, List.mem_singleton] at hd
      obtain ⟨x, hx, rfl⟩ := List.mem_map.1 ha
      have := hlt x hx
      omega
    · rw [Array.toList_push, List.mem_append, List.mem_singleton] at he
      rcases he with he | rfl
      · have := hlt e he; omega
      · exact Nat.lt_succ_self _
  · have hj : es[j]? = some e0 := by simpa using h2
    have hm0 := List.mem_of_getElem? h2
    obtain ⟨w1, hr, hM, _, hK, hS⟩ := store_run (P := P) (t := t) h ⟨es, cl, hb, e0, hm0, hk0, rfl⟩ s hc
    have hidx : es.findIdx? (fun e => ((e.born : Nat) : Int) == ((e0.born : Nat) : Int)) = some j := by
      rw [WideElems.findIdx_arr]
      exact WideElems.findIdx_born hd2 h2
    have hmod : es.modify j (fun e => { e with val := .string s }) = es.modify j (fun e' => { e' with key := bk c, val := .string s }) := by
      apply Array.ext'
      rw [Array.toList_modify, Array.toList_modify, modify_eq_set _ _ _ _ h2, modify_eq_set _ _ _ _ h2, ← hk0]
    refine ⟨w1, ?_, hM.mono (Nat.le_succ _), hK, hS⟩
    simp [Instr.entryStore, MapKept.run_getObj_map hb, asInt, asIntOf, goInt, hidx, hmod, MapKept.run_setObj_map _ hb, Result.andThen, setBlock] at hr
    simp [Instr.mapUpdate, run_underlying ht, MapKept.run_getObj_map hb, K.check w false (keyof hk c hc), h1, hj, hk0, K.stays w (keyof hk c hc), MapKept.run_setObj_map _ hb, Result.andThen]
    exact hr
end
end Go.Proofs.YthkigjhbcempbaaDoor.Rg
