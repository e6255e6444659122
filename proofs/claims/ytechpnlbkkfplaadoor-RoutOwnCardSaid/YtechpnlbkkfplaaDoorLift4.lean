/- The lift, fourth text: the words of the printed functions. -/
import Derived.Test.YtechpnlbkkfplaaDoorLift3
namespace Go.Lift

/-- A value under a name. -/
def bd {α : Type} (e : α) (F : α → Prop) : Prop := F e
def al (h : Heap) (cells : Array Value) (t : TypeId) : Heap := h.push (.cells cells t)
def top (h : Heap) : Addr := ⟨h.size, 0, none⟩
def zcl (P : Program) (t : TypeId) : Array Value := match zinfo P t with
  | some z => z.cells
  | none => #[]
def bld (P : Program) (t : TypeId) (vs : List (Nat × Value)) (cs : List Value) : Prop := Instr.fill (places P (P.underlying t)) (zcl P t) vs = some cs.toArray
def bldS (P : Program) (t e : TypeId) (len : Nat) (vs : List (Nat × Value)) (cs : List Value) : Prop :=
  Instr.fill (places P (P.underlying t)) (zrow (zcl P e).toList len (P.cellsOf e)).toArray vs = some cs.toArray
def eqS (op : BinOp) (t : TypeId) (x y : Operand) (a b : Value) : Sem Value := do eqGuard op t x y a b; Go.binOp op t a b

def bodyOf (fn : Func) : Code := match fn.body with
  | some c => c
  | none => .skip

/-- The obligations in a row. -/
def oblF (P : Program) (N : Nat) : Code → Plan → (X → PEnv → Heap → Prop) → Prop → Prop
  | .region _ ops draw, p, _, R => match draw, p with
    | true, .orders tr => DrawOK P N ops tr ∧ R
    | _, _ => R
  | .seq x y, p, Q, R => match p with
    | .cut l j p q => oblF P N x p (X.then (leaf l j) Q) ((∀ x h, j x h → ev P y q Q (mkL l x) h) ∧ oblF P N y q Q R)
    | .seq p q => oblF P N x p (X.then (ev P y q Q) Q) (oblF P N y q Q R)
    | _ => oblF P N x .go (X.then (ev P y .go Q) Q) (oblF P N y .go Q R)
  | .cond _ x y, p, Q, R => match p with
    | .cond p q => oblF P N x p Q (oblF P N y q Q R)
    | _ => oblF P N x .go Q (oblF P N y .go Q R)
  | .block id c, p, Q, R => match p with
    | .block p => oblF P N c p (X.blk id Q) R
    | _ => oblF P N c .go (X.blk id Q) R
  | .loop c, p, Q, R => match p with
    | .loop l j p => (∀ x h, ¬ j 0 x h) ∧ (∀ n x h, j (n + 1) x h → ev P c (p n) (X.then (leaf l (j n)) Q) (mkL l x) h) ∧ (∀ n, oblF P N c (p n) (X.then (leaf l (j n)) Q) True) ∧ R
    | _ => R
  | _, _, _, R => R

theorem oblF_spec {P : Program} {N : Nat} : ∀ (c : Code) (p : Plan) (Q : X → PEnv → Heap → Prop) (R : Prop), oblF P N c p Q R → obl P N c p Q ∧ R := by
  intro c
  induction c with
  | region id ops draw =>
    intro p Q R h
    unfold oblF at h
    unfold obl
    cases draw <;> cases p <;> simp only at h ⊢ <;> first | exact ⟨trivial, h⟩ | exact h
  | seq x y ihx ihy =>
    intro p Q R h
    unfold oblF at h
    unfold obl
    cases p with
    | cut l j p q =>
      simp only at h ⊢
      obtain ⟨h1, h2, h3⟩ := ihx _ _ _ h
      obtain ⟨h3, h4⟩ := ihy _ _ _ h3
      exact ⟨⟨h1, h2, h3⟩, h4⟩
    | seq p q => obtain ⟨h1, h2⟩ := ihx _ _ _ h; obtain ⟨h2, h3⟩ := ihy _ _ _ h2; exact ⟨⟨h1, h2⟩, h3⟩
    | _ => obtain ⟨h1, h2⟩ := ihx _ _ _ h; obtain ⟨h2, h3⟩ := ihy _ _ _ h2; exact ⟨⟨h1, h2⟩, h3⟩
  | cond c x y ihx ihy =>
    intro p Q R h
    unfold oblF at h
    unfold obl
    cases p with
    | cond p q => obtain ⟨h1, h2⟩ := ihx _ _ _ h; obtain ⟨h2, h3⟩ := ihy _ _ _ h2; exact ⟨⟨h1, h2⟩, h3⟩
    | _ => obtain ⟨h1, h2⟩ := ihx _ _ _ h; obtain ⟨h2, h3⟩ := ihy _ _ _ h2; exact ⟨⟨h1, h2⟩, h3⟩
  | block id c ih =>
    intro p Q R h
    unfold oblF at h
    unfold obl
    cases p with
    | block p => exact ih _ _ _ h
    | _ => exact ih _ _ _ h
  | loop c ih =>
    intro p Q R h
    unfold oblF at h
    unfold obl
    cases p <;> simp only at h ⊢ <;> try exact ⟨trivial, h⟩
    obtain ⟨h1, h2, h3, h4⟩ := h
    exact ⟨⟨h1, h2, fun n => (ih _ _ _ (h3 n)).1⟩, h4⟩
  | _ => intro p Q R h; exact ⟨trivial, h⟩

def fitF (fn : Func) (n : Nat) : Bool := fn.body.isSome && (fn.name != "runtime.NumGoroutine") && codeOk fn.ntmps (bodyOf fn) && Nat.ble n fn.ntmps

theorem calls_of_evF {P : Program} {f : FuncId} {fn : Func} (p : Plan) {args : List Value} {K : Value → Heap → Prop} {h : Heap} (hfn : P.funcs[f]? = some fn) (hb : fitF fn args.length = true)
    (ho : oblF P fn.ntmps (bodyOf fn) p (retQ P fn.results.toList K) True) (he : ev P (bodyOf fn) p (retQ P fn.results.toList K) (args0 0 args) h) : CallsH P f args K h := by
  simp only [fitF, Bool.and_eq_true] at hb
  obtain ⟨⟨⟨h1, h2⟩, h3⟩, h4⟩ := hb
  obtain ⟨b, hbody⟩ := Option.isSome_iff_exists.1 h1
  have e : fn.body = some (bodyOf fn) := by simp [bodyOf, hbody]
  exact calls_of_ev p hfn e h2 h3 h4 (oblF_spec _ _ _ _ ho).1 he

end Go.Lift
