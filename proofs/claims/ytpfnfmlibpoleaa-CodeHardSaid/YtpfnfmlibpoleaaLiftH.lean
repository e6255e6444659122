/- The lift's words on heaps: what a call keeps, and how a law's row comes of its telling. -/
import Derived.Test.YtpfnfmlibpoleaaLift5
import Derived.Laws.Strings
namespace Go.Lift

/-- All blocks but those of S are as they were; none is gone. -/
structure Keeps (S : Nat → Prop) (h h' : Heap) : Prop where
  size : h.size ≤ h'.size
  blk : ∀ b, b < h.size → ¬ S b → h'[b]? = h[b]?

abbrev Kept : Heap → Heap → Prop := Keeps fun _ => False

theorem Keeps.refl (S : Nat → Prop) (h : Heap) : Keeps S h h := ⟨Nat.le_refl _, fun _ _ _ => rfl⟩
theorem Kept.refl (h : Heap) : Kept h h := Keeps.refl _ h
theorem Keeps.trans {S : Nat → Prop} {a b c : Heap} (h : Keeps S a b) (k : Keeps S b c) : Keeps S a c :=
  ⟨Nat.le_trans h.size k.size, fun i hi hs => (k.blk i (Nat.lt_of_lt_of_le hi h.size) hs).trans (h.blk i hi hs)⟩
/-- Blocks that were made in between may turn. -/
theorem Keeps.trans' {S S' : Nat → Prop} {a b c : Heap} (h : Keeps S a b) (k : Keeps S' b c) (hs : ∀ i, i < a.size → S' i → S i) : Keeps S a c :=
  ⟨Nat.le_trans h.size k.size, fun i hi hn => (k.blk i (Nat.lt_of_lt_of_le hi h.size) (fun x => hn (hs i hi x))).trans (h.blk i hi hn)⟩
theorem Keeps.mono {S S' : Nat → Prop} {a b : Heap} (h : Keeps S a b) (hs : ∀ i, i < a.size → S i → S' i) : Keeps S' a b :=
  ⟨h.size, fun i hi hn => h.blk i hi fun x => hn (hs i hi x)⟩
theorem Keeps.push (S : Nat → Prop) (h : Heap) (o : Obj) : Keeps S h (h.push o) :=
  ⟨by simp, fun b hb _ => by rw [Array.getElem?_push, if_neg (by omega)]⟩
theorem Keeps.al (S : Nat → Prop) (h : Heap) (cs : Array Value) (t : TypeId) : Keeps S h (al h cs t) := Keeps.push S h _
theorem Kept.trans {a b c : Heap} (h : Kept a b) (k : Kept b c) : Kept a c := Keeps.trans h k

theorem hcell_eq {h h' : Heap} {a : Addr} (e : h'[a.block]? = h[a.block]?) : hcell h' a = hcell h a := by simp only [hcell, e]

/-- A law that answers true and keeps what was there. -/
theorem law_calls {P : Program} {f : FuncId} {args : List Value} {h : Heap} (c : CallsH P f args (fun v h' => v = .bool true ∧ Kept h h') h) (W : World) (hW : W.heap = h) :
    Calls P f args.toArray W fun e W' => e = .returned (.bool true) ∧ RowKit.Below W.heap.size W W' :=
  (c.2 W hW).mono fun e w' ⟨v, he, ⟨hv, hk⟩, hr⟩ => by
    subst hv
    exact ⟨he, hr.os, hr.tape, hr.output, by rw [hW]; exact hk.size, fun k hk' => by rw [hW] at hk' ⊢; exact hk.blk k hk' fun x => x⟩

/-- Nothing at all has turned. -/
abbrev Same : Heap → Heap → Prop := fun h h' => h' = h

end Go.Lift
