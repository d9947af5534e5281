/-
  PROVED HERE: the last step of every law's row, over any program: where a law returned true and only memory above the old heap's end has turned, its arguments read as they did. Conditions: as the theorem states.
-/
import Derived.Test.YtkopjmofdnlplaaGreatDoorMem
import Derived.Below
import Derived.Carry
import Derived.ChangeOld
namespace Go.Proofs.YtkopjmofdnlplaaGreatDoor
open Go.RowKit Go.WideShapes Go.ChangeShapes
section
variable {H : Type} {enc : TypeId × Value → H} {P : Program}
theorem trodAll_stays (hl : laidOutB P = true) {W W' : World} (hb : Below W.heap.size W W') :
    ∀ (ts : List TypeId) (vs : List Value) (ds : List (DataW H)) (ps : List MemPlace), (∀ t ∈ ts, P.readableRec t = true ∧ t < P.types.size) →
      DataW.TrodAll enc P W 0 (fun _ => true) true ts vs ds ps → (∀ x ∈ ps, x.block < W.heap.size) → ∀ sp : Nat → Bool, (∀ x ∈ ps, sp x.block = true) → DataW.TrodAll enc P W' 0 sp true ts vs ds ps
  | [], [], [], _, _, h, _, _, _ => h
  | t :: ts, v :: vs, d :: ds, ps, ht, h, hlt, sp, hsp => by
    obtain ⟨p, q, h1, h2, rfl⟩ := h
    obtain ⟨hr, hrow⟩ := ht t (List.mem_cons_self ..)
    exact ⟨p, q, WideElems.Trod_stays hl hr hrow h1 (fun x hx => hb.same (hlt x (List.mem_append_left _ hx))) (fun x hx => hsp x (List.mem_append_left _ hx)),
      trodAll_stays hl hb ts vs ds q (fun t' h' => ht t' (List.mem_cons_of_mem _ h')) h2 (fun x hx => hlt x (List.mem_append_right _ hx)) sp (fun x hx => hsp x (List.mem_append_right _ hx)), rfl⟩
  | [], [], _ :: _, _, _, h, _, _, _ => h.elim
  | [], _ :: _, _, _, _, h, _, _, _ => h.elim
  | _ :: _, [], _, _, _, h, _, _, _ => h.elim
  | _ :: _, _ :: _, [], _, _, h, _, _, _ => h.elim

theorem law_post {f : Func} {s : ChangeSpec} {W W' : World} {args : Array Value} {ds : List (DataW H)} {before : List MemPlace} {T : TypeId}
    (hT : P.underlying T = some .bool) (hres : f.resultTypes = #[T]) (hl : laidOutB P = true) (hts : ∀ t ∈ f.params.toList, P.readableRec t = true ∧ t < P.types.size)
    (hvars : s.vars = []) (hs : s.fn H (ds ++ []) = { results := [.lit (.bool true)], args := ds })
    (hW : DataW.Whole enc P f.params.toList s.vars false W args.toList ds [] before) (hb : Below W.heap.size W W') :
    s.post enc P f false true false false W args (.bool true) W' := by
  have hlt := hW.lt
  obtain ⟨p, q, hA, hV, hpq, hz, hn⟩ := hW
  have hV' := hV
  rw [hvars] at hV'
  have hq : q = [] := hV'
  subst hq
  have hbp : before = p := by rw [hpq, List.append_nil]
  refine post_of_below (pa := p) (pv := []) ⟨p, [], hA, hV, hpq, hz, hn⟩ ?_ ?_ ?_ hpq hb (ok_one hres rfl (okWide_bool_mk hT _))
  · intro b sp hd
    rw [hs, hres]
    exact trodAll_cons_mk (shut_bool hT _) trodAll_mk0
  · intro sp hsp
    rw [hs]
    exact trodAll_stays hl hb _ _ _ _ hts hA (fun x hx => hlt x (by rw [hbp]; exact hx)) sp (fun x hx => hsp x (by rw [hbp]; exact hx))
  · intro sp hsp
    rw [hvars, hs]
    rfl
end
end Go.Proofs.YtkopjmofdnlplaaGreatDoor
