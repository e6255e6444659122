/- The lift, third text: regions, code with cuts and loops, whole functions. -/
import Derived.Test.YtechpnlbkkfplaaDoorLift2
namespace Go.Lift

/-! ### Regions -/

def gtmp (ops : Array Oper) (j : Nat) : Option Tmp :=
  match ops[j]? with
  | some o => o.dst
  | none => none

def decAt : List (Nat × Option Bool) → Nat → Option (Option Bool)
  | [], _ => none
  | p :: l, j => match Nat.beq p.1 j with
    | true => some p.2
    | false => decAt l j

/-- What is told of a temporary by the guards that were asked. -/
def decTmp (ops : Array Oper) : List (Nat × Option Bool) → Tmp → Option Bool
  | [], _ => none
  | p :: l, t => match p.2, gtmp ops p.1 with
    | some b, some g => match Nat.beq g t with
      | true => some b
      | false => decTmp ops l t
    | _, _ => decTmp ops l t

abbrev Dec := List (Nat × Option Bool)

/-- A pick that yields a bare bool is told to the guards to come. -/
def decPick (i : Nat) (z : Operand) (dec : Dec) : Dec :=
  match z with
  | .const (.bool c) => (i, some c) :: dec
  | _ => dec

/-- An operation that is carried out. -/
def evDo (P : Program) (ops : Array Oper) (i : Nat) (dec : Dec) (o : Oper) (ρ : PEnv) (h : Heap) (k : Dec → Value → Heap → Prop) : Prop :=
  match o.op with
  | .pick (.tmp t) x y => match decTmp ops dec t with
    | some b => match get ρ t, b with
      | some (.bool true), true => match ρ.val x with
        | some v => k (decPick i x dec) v h
        | none => False
      | some (.bool false), false => match ρ.val y with
        | some v => k (decPick i y dec) v h
        | none => False
      | _, _ => False
    | none => match get ρ t, ρ.val x, ρ.val y with
      | some (.bool b), some u, some v => (b = true → k dec u h) ∧ (b = false → k dec v h)
      | _, _, _ => False
  | .move (.tmp t) => match get ρ t with
    | some v => match decTmp ops dec t with
      | some b => k ((i, some b) :: dec) v h
      | none => k dec v h
    | none => False
  | .entry it => match ρ.val it with
    | some v => SemH P (Instr.entry v) (fun u h' => entryD P (entT ops.toList o.dst 0) (entT ops.toList o.dst 1) u fun z => k dec z h') h
    | none => False
  | _ => evOp P o ρ h (k dec)

/-- Operation number i comes up. -/
def evStep (P : Program) (ops : Array Oper) (i : Nat) (dec : Dec) (ρ : PEnv) (h : Heap) (k : Dec → PEnv → Heap → Prop) : Prop :=
  match ops[i]? with
  | none => False
  | some o => match o.guard with
    | none => evDo P ops i dec o ρ h fun dec v h' => k dec (ρ.put o.dst v) h'
    | some (j, want) => match gtmp ops j with
      | none => False
      | some g => match decAt dec j with
        | some (some b) => match get ρ g, b, want with
          | some (.bool true), true, true => evDo P ops i dec o ρ h fun dec v h' => k dec (ρ.put o.dst v) h'
          | some (.bool false), false, false => evDo P ops i dec o ρ h fun dec v h' => k dec (ρ.put o.dst v) h'
          | some (.bool true), true, false => k ((i, none) :: dec) (ρ.put o.dst undef) h
          | some (.bool false), false, true => k ((i, none) :: dec) (ρ.put o.dst undef) h
          | _, _, _ => False
        | some none => match get ρ g with
          | some (.tuple _) => k ((i, none) :: dec) (ρ.put o.dst undef) h
          | _ => False
        | none => match get ρ g, want with
          | some (.bool b), true =>
            (b = true → evDo P ops i ((j, some true) :: dec) o ((g, .bool true) :: ρ) h fun dec v h' => k dec (PEnv.put ((g, .bool true) :: ρ) o.dst v) h') ∧
            (b = false → k ((i, none) :: (j, some false) :: dec) (PEnv.put ((g, .bool false) :: ρ) o.dst undef) h)
          | some (.bool b), false =>
            (b = false → evDo P ops i ((j, some false) :: dec) o ((g, .bool false) :: ρ) h fun dec v h' => k dec (PEnv.put ((g, .bool false) :: ρ) o.dst v) h') ∧
            (b = true → k ((i, none) :: (j, some true) :: dec) (PEnv.put ((g, .bool true) :: ρ) o.dst undef) h)
          | _, _ => False

def evL (P : Program) (ops : Array Oper) (Q : PEnv → Heap → Prop) : List Nat → Dec → PEnv → Heap → Prop
  | [], _, ρ, h => Q ρ h
  | i :: l, dec, ρ, h => evStep P ops i dec ρ h fun dec ρ h => evL P ops Q l dec ρ h

/-- Orders of a region's operations. -/
inductive Tr where
  | nil
  | op (i : Nat) (t : Tr)
  | both (t u : Tr)

def evT (P : Program) (ops : Array Oper) (Q : PEnv → Heap → Prop) : Tr → Dec → PEnv → Heap → Prop
  | .nil, _, ρ, h => Q ρ h
  | .op i t, dec, ρ, h => evStep P ops i dec ρ h fun dec ρ h => evT P ops Q t dec ρ h
  | .both t u, dec, ρ, h => evT P ops Q t dec ρ h ∧ evT P ops Q u dec ρ h

def dstsOk (N : Nat) (ops : Array Oper) : Bool := ops.toList.all fun o => match o.dst with
  | some d => Nat.blt d N
  | none => true

theorem dstsOk_spec {N : Nat} {ops : Array Oper} (h : dstsOk N ops = true) {i : Nat} {o : Oper} (ho : ops[i]? = some o) (d : Tmp) (hd : o.dst = some d) : d < N := by
  have hm : o ∈ ops.toList := by
    rw [← Array.getElem?_toList] at ho
    exact List.mem_of_getElem? ho
  have := List.all_eq_true.1 h o hm
  simp only [hd] at this
  exact Nat.le_of_ble_eq_true this

section
variable {P : Program} {ops : Array Oper} {Q' : Exit → Act → World → Prop} {w0 : World} {N : Nat}

theorem Fits.again {ρ : PEnv} {a : Act} (h : Fits N ρ a) {g : Tmp} {v : Value} (hg : get ρ g = some v) : Fits N ((g, v) :: ρ) a :=
  h.drop fun t u hu => by
    rw [get_cons] at hu
    split at hu
    · rename_i e; subst e; rw [hg]; exact hu
    · exact hu

theorem upto_mono {k k' : Value → Heap → Prop} {w : World} {r : Result Next} (h : upto P w k r) (hk : ∀ v h, k v h → k' v h) : upto P w k' r := by
  cases r with
  | halt x w' => exact h.elim
  | ok n w' =>
    cases n <;> simp only [upto] at h ⊢ <;> first
      | exact ⟨hk _ _ h.1, h.2⟩
      | exact ⟨h.1, h.2.mono fun e w'' ⟨v, he, h1, h2⟩ => ⟨v, he, hk _ _ h1, h2⟩⟩
      | exact h.elim

theorem evDo_sound {i : Nat} {dec : Dec} {o : Oper} {ρ : PEnv} {h : Heap} {k : Dec → Value → Heap → Prop} {a : Act} {w : World} (hf : Fits N ρ a) (hw : w.heap = h)
    (he : evDo P ops i dec o ρ h k) : OpOK P o a w fun v h' => ∃ dec, k dec v h' := by
  obtain ⟨dst, op, type, pos, after, guard⟩ := o
  unfold evDo at he
  split at he
  · rename_i t x y hop
    simp only at hop
    subst hop
    have pk : ∀ (b : Bool) (u v : Value), get ρ t = some (.bool b) → (b = true → ρ.val x = some u) → (b = false → ρ.val y = some v) → (∃ dec, k dec (if b then u else v) h) →
        OpOK P { dst, op := .pick (.tmp t) x y, type, pos, after, guard } a w fun v h' => ∃ dec, k dec v h' := by
      intro b u v ht hx hy hk
      unfold OpOK execOp
      simp only
      rw [hf.val (x := .tmp t) (v := .bool b) ht]
      simp only [asBool, pure_bind]
      cases b with
      | true => rw [hf.val (hx rfl)]; exact upto_value (by rw [hw]; exact hk)
      | false => rw [hf.val (hy rfl)]; exact upto_value (by rw [hw]; exact hk)
    split at he
    · split at he
      · rename_i ht hb
        split at he
        · rename_i v hv
          exact pk true v v ht (fun _ => hv) (fun e => by cases e) ⟨_, he⟩
        · exact he.elim
      · rename_i ht hb
        split at he
        · rename_i v hv
          exact pk false v v ht (fun e => by cases e) (fun _ => hv) ⟨_, he⟩
        · exact he.elim
      · exact he.elim
    · split at he
      · rename_i b u v ht hx hy
        obtain ⟨h1, h2⟩ := he
        refine pk b u v ht (fun _ => hx) (fun _ => hy) ?_
        cases b with
        | true => exact ⟨_, h1 rfl⟩
        | false => exact ⟨_, h2 rfl⟩
      · exact he.elim
  · rename_i t hop
    simp only at hop
    subst hop
    split at he
    · rename_i v hv
      have hk : ∃ dec, k dec v h := by split at he <;> exact ⟨_, he⟩
      unfold OpOK execOp
      simp only
      rw [hf.val (x := .tmp t) hv]
      exact upto_value (by rw [hw]; exact hk)
    · exact he.elim
  · rename_i it hop
    simp only at hop
    subst hop
    split at he
    · rename_i v hv
      unfold OpOK execOp
      simp only
      rw [hf.val hv]
      obtain ⟨v', w', e1, e2, e3⟩ := he w hw
      simp only [Sem.run_bind, e1, Result.andThen_ok, Sem.run_pure]
      exact ⟨⟨_, entryD_spec e2⟩, e3⟩
    · exact he.elim
  · exact upto_mono (evOp_sound hf hw he) fun _ _ hk => ⟨_, hk⟩

theorem upon_of_upto {o : Oper} {a : Act} {w : World} {k : Value → Heap → Prop} {next : Act → World → Prop} (hr0 : Rest w0 w) (h : OpOK P o a w k)
    (hk : ∀ v w', k v w'.heap → Rest w0 w' → next (a.put o.dst v) w') : o.wp P a w next Q' := by
  unfold OpOK at h
  unfold Oper.wp
  generalize (execOp a.eval o).run P w = r at h
  cases r with
  | halt x w' => exact h.elim
  | ok n w' =>
    cases n <;> simp only [upto] at h <;> try exact h.elim
    case value v => exact hk v w' h.1 (hr0.trans h.2)
    case skip => exact hk undef w' h.1 (hr0.trans h.2)
    case enter f args =>
      refine h.2.mono fun e w'' ⟨v, he, h1, h2⟩ => ?_
      subst he
      exact hk v w'' h1 ((hr0.trans h.1).trans h2)

theorem evStep_sound {i : Nat} {dec : Dec} {ρ : PEnv} {a : Act} {w : World} {k : Dec → PEnv → Heap → Prop} {K : Act → World → Prop}
    (hd : dstsOk N ops = true) (hf : Fits N ρ a) (hr : Rest w0 w) (he : evStep P ops i dec ρ w.heap k)
    (hk : ∀ dec ρ a w, Fits N ρ a → Rest w0 w → k dec ρ w.heap → K a w) : wpOp P ops Q' i K a w := by
  unfold evStep at he
  unfold wpOp
  cases ho : ops[i]? with
  | none => simp only [ho] at he
  | some o =>
    simp only [ho] at he ⊢
    have go : ∀ dec ρ, Fits N ρ a → evDo P ops i dec o ρ w.heap (fun dec v h' => k dec (ρ.put o.dst v) h') → o.wp P a w K Q' := by
      intro dec ρ hf he
      exact upon_of_upto hr (evDo_sound hf rfl he) fun v w' ⟨dec, hv⟩ hr' => hk dec _ _ w' (hf.put o.dst v (fun d hd' => dstsOk_spec hd ho d hd')) hr' hv
    have sk : ∀ dec ρ, Fits N ρ a → k dec (ρ.put o.dst undef) w.heap → K (a.put o.dst undef) w := by
      intro dec ρ hf he
      exact hk dec _ _ w (hf.put o.dst undef (fun d hd' => dstsOk_spec hd ho d hd')) hr he
    split at he
    · rename_i hg
      simp only [Region.wanted, hg, if_true]
      exact .inl (go dec ρ hf he)
    · rename_i j want hg
      split at he
      · exact he.elim
      · rename_i g hgt
        have hy : ∀ v, get ρ g = some v → yielded ops a.tmps j = (match v with | .bool b => some b | _ => none) := by
          intro v hv
          unfold yielded
          unfold gtmp at hgt
          cases hj : ops[j]? with
          | none => simp [hj] at hgt
          | some oj =>
            simp only [hj] at hgt
            simp [hgt, hf.tmp g v hv]
            cases v <;> rfl
        simp only [Region.wanted, hg]
        split at he
        · split at he
          · rename_i hv _
            rw [hy _ hv]
            exact .inl (go dec ρ hf he)
          · rename_i hv _
            rw [hy _ hv]
            exact .inl (go dec ρ hf he)
          · rename_i hv _
            rw [hy _ hv]
            exact sk _ ρ hf he
          · rename_i hv _
            rw [hy _ hv]
            exact sk _ ρ hf he
          · exact he.elim
        · split at he
          · rename_i hv
            rw [hy _ hv]
            exact sk _ ρ hf he
          · exact he.elim
        · split at he
          · rename_i b hv
            rw [hy _ hv]
            cases b with
            | true => exact .inl (go _ _ (hf.again hv) (he.1 rfl))
            | false => exact sk _ _ (hf.again hv) (he.2 rfl)
          · rename_i b hv
            rw [hy _ hv]
            cases b with
            | true => exact sk _ _ (hf.again hv) (he.2 rfl)
            | false => exact .inl (go _ _ (hf.again hv) (he.1 rfl))
          · exact he.elim

theorem evL_sound {Q : PEnv → Heap → Prop} (hd : dstsOk N ops = true) (hQ : ∀ ρ a w, Q ρ w.heap → Fits N ρ a → Rest w0 w → Q' .normal a w) :
    ∀ (l : List Nat) (dec : Dec) (ρ : PEnv) (a : Act) (w : World), Fits N ρ a → Rest w0 w → evL P ops Q l dec ρ w.heap → wpOps P ops Q' l a w
  | [], dec, ρ, a, w, hf, hr, he => hQ ρ a w he hf hr
  | i :: l, dec, ρ, a, w, hf, hr, he => by
    rw [wpOps_cons]
    exact evStep_sound hd hf hr he fun dec ρ a w hf hr he => evL_sound hd hQ l dec ρ a w hf hr he
end

/-! ### Code -/

inductive X where
  | normal
  | exit (id : Nat)
  | ret

def X.then (next : PEnv → Heap → Prop) (Q : X → PEnv → Heap → Prop) : X → PEnv → Heap → Prop
  | .normal => next
  | e => Q e

def X.blk (id : Nat) (Q : X → PEnv → Heap → Prop) : X → PEnv → Heap → Prop
  | .exit i => match Nat.beq i id with
    | true => Q .normal
    | false => Q (.exit i)
  | e => Q e

/-- How a temporary that lives on is told. -/
inductive VT where
  | int (k : IntKind) | bool | str | ptr | addr | slice | map | agg | raw

abbrev VT.T : VT → Type
  | .int _ => Int
  | .bool => Bool
  | .str => List UInt8
  | .ptr => Option Addr
  | .addr => Addr
  | .slice => Option Addr × Nat × Nat
  | .map => Option Nat
  | .agg => List Value
  | .raw => Value

def VT.mk : (t : VT) → t.T → Value
  | .int k, n => .int k n
  | .bool, b => .bool b
  | .str, s => .string (mkS s)
  | .ptr, p => .pointer p
  | .addr, a => .pointer (some a)
  | .slice, s => .slice s.1 s.2.1 s.2.2
  | .map, m => .map m
  | .agg, cs => .agg cs.toArray
  | .raw, v => v

def VT.rd : (t : VT) → Value → Option t.T
  | .int k, .int k' n => if k = k' then some n else none
  | .bool, .bool b => some b
  | .str, .string s => some (sl s)
  | .ptr, .pointer p => some p
  | .addr, .pointer (some a) => some a
  | .slice, .slice a l c => some (a, l, c)
  | .map, .map m => some m
  | .agg, .agg cs => some cs.toList
  | .raw, v => some v
  | _, _ => none

theorem VT.rd_spec : ∀ {t : VT} {v : Value} {x : t.T}, t.rd v = some x → v = t.mk x
  | .int k, .int k' n, x, h => by
    have h' : (if k = k' then some n else none) = some x := h
    by_cases e : k = k'
    · subst e; rw [if_pos rfl] at h'; cases h'; rfl
    · rw [if_neg e] at h'; cases h'
  | .bool, .bool b, x, h => by cases h; rfl
  | .str, .string s, x, h => by cases h; rfl
  | .ptr, .pointer p, x, h => by cases h; rfl
  | .addr, .pointer (some a), x, h => by cases h; rfl
  | .slice, .slice a l c, x, h => by cases h; rfl
  | .map, .map m, x, h => by cases h; rfl
  | .agg, .agg cs, x, h => by cases h; rfl
  | .raw, v, x, h => by cases v <;> (cases h; rfl)

abbrev Live := List (Nat × VT)

def Tup : Live → Type
  | [] => Unit
  | p :: l => p.2.T × Tup l

def rdL : (l : Live) → PEnv → Option (Tup l)
  | [], _ => some ()
  | p :: l, ρ => match get ρ p.1 with
    | some v => match p.2.rd v with
      | some x => match rdL l ρ with
        | some y => some (x, y)
        | none => none
      | none => none
    | none => none

def mkL : (l : Live) → Tup l → PEnv
  | [], _ => []
  | p :: l, x => (p.1, p.2.mk x.1) :: mkL l x.2

def leaf (l : Live) (j : Tup l → Heap → Prop) (ρ : PEnv) (h : Heap) : Prop :=
  match rdL l ρ with
  | some x => j x h
  | none => False

theorem rdL_spec : ∀ {l : Live} {ρ : PEnv} {x : Tup l}, rdL l ρ = some x → ∀ t v, get (mkL l x) t = some v → get ρ t = some v
  | [], _, _, _, t, v, hg => by simp [mkL, get] at hg
  | p :: l, ρ, x, h, t, v, hg => by
    unfold rdL at h
    split at h
    · rename_i u hu
      split at h
      · rename_i y hy
        split at h
        · rename_i z hz
          have hx : (y, z) = x := Option.some.inj h
          subst hx
          simp only [mkL, get_cons] at hg
          split at hg
          · rename_i e
            subst e
            rw [← hg, hu, VT.rd_spec hy]
          · exact rdL_spec hz t v hg
        · cases h
      · cases h
    · cases h

theorem leaf_spec {l : Live} {j : Tup l → Heap → Prop} {ρ : PEnv} {h : Heap} (hl : leaf l j ρ h) : ∃ x, j x h ∧ ∀ t v, get (mkL l x) t = some v → get ρ t = some v := by
  unfold leaf at hl
  split at hl
  · rename_i x hx; exact ⟨x, hl, rdL_spec hx⟩
  · exact hl.elim

/-- Where a code is cut, and its loops. -/
inductive Plan where
  | go
  | seq (p q : Plan)
  | cut (l : Live) (j : Tup l → Heap → Prop) (p q : Plan)
  | cond (p q : Plan)
  | block (p : Plan)
  | loop (l : Live) (j : Nat → Tup l → Heap → Prop) (p : Nat → Plan)
  | orders (tr : Tr)

def ev (P : Program) : Code → Plan → (X → PEnv → Heap → Prop) → PEnv → Heap → Prop
  | .skip, _, Q, ρ, h => Q .normal ρ h
  | .label _, _, Q, ρ, h => Q .normal ρ h
  | .region _ ops draw, p, Q, ρ, h => match draw, p with
    | false, _ => evL P ops (Q .normal) (List.range ops.size) [] ρ h
    | true, .orders tr => evT P ops (Q .normal) tr [] ρ h
    | true, _ => False
  | .seq x y, p, Q, ρ, h => match p with
    | .cut l j p _ => ev P x p (X.then (leaf l j) Q) ρ h
    | .seq p q => ev P x p (X.then (ev P y q Q) Q) ρ h
    | _ => ev P x .go (X.then (ev P y .go Q) Q) ρ h
  | .cond c x y, p, Q, ρ, h => match ρ.val c with
    | some (.bool b) => match p with
      | .cond p q => (b = true → ev P x p Q ρ h) ∧ (b = false → ev P y q Q ρ h)
      | _ => (b = true → ev P x .go Q ρ h) ∧ (b = false → ev P y .go Q ρ h)
    | _ => False
  | .block id c, p, Q, ρ, h => match p with
    | .block p => ev P c p (X.blk id Q) ρ h
    | _ => ev P c .go (X.blk id Q) ρ h
  | .loop _, p, _, ρ, h => match p with
    | .loop l j _ => match rdL l ρ with
      | some x => ∃ n, j n x h
      | none => False
    | _ => False
  | .exit id, _, Q, ρ, h => Q (.exit id) ρ h
  | .ret, _, Q, ρ, h => Q .ret ρ h
  | _, _, _, _, _ => False

/-- These orders of a region's operations tell all orders. -/
def DrawOK (P : Program) (N : Nat) (ops : Array Oper) (tr : Tr) : Prop :=
  ∀ (Q : PEnv → Heap → Prop) (Q' : Exit → Act → World → Prop) (w0 : World), (∀ c a w, ¬ Q' (.panic c) a w) → (∀ a w, ¬ Q' .outgrown a w) →
    (∀ ρ a w, Q ρ w.heap → Fits N ρ a → Rest w0 w → Q' .normal a w) →
    ∀ (ρ : PEnv) (a : Act) (w : World), Fits N ρ a → Rest w0 w → evT P ops Q tr [] ρ w.heap → ∀ t, wpOps P ops Q' (Region.schedule (P.follows .mixedOrders) ops t) a { w with drawn := w.drawn + 1 }

/-- What is owed for the cuts, the loops and the regions that draw. -/
def obl (P : Program) (N : Nat) : Code → Plan → (X → PEnv → Heap → Prop) → Prop
  | .region _ ops draw, p, _ => match draw, p with
    | true, .orders tr => DrawOK P N ops tr
    | _, _ => True
  | .seq x y, p, Q => match p with
    | .cut l j p q => obl P N x p (X.then (leaf l j) Q) ∧ (∀ x h, j x h → ev P y q Q (mkL l x) h) ∧ obl P N y q Q
    | .seq p q => obl P N x p (X.then (ev P y q Q) Q) ∧ obl P N y q Q
    | _ => obl P N x .go (X.then (ev P y .go Q) Q) ∧ obl P N y .go Q
  | .cond _ x y, p, Q => match p with
    | .cond p q => obl P N x p Q ∧ obl P N y q Q
    | _ => obl P N x .go Q ∧ obl P N y .go Q
  | .block id c, p, Q => match p with
    | .block p => obl P N c p (X.blk id Q)
    | _ => obl P N c .go (X.blk id Q)
  | .loop c, p, Q => match p with
    | .loop l j p => (∀ x h, ¬ j 0 x h) ∧ (∀ n x h, j (n + 1) x h → ev P c (p n) (X.then (leaf l (j n)) Q) (mkL l x) h) ∧ ∀ n, obl P N c (p n) (X.then (leaf l (j n)) Q)
    | _ => True
  | _, _, _ => True

def codeOk (N : Nat) : Code → Bool
  | .region _ ops _ => dstsOk N ops
  | .seq x y => codeOk N x && codeOk N y
  | .cond _ x y => codeOk N x && codeOk N y
  | .block _ c => codeOk N c
  | .loop c => codeOk N c
  | _ => true

/-- A post of the machine's, off one over the heap. -/
def up (N : Nat) (w0 : World) (Q : X → PEnv → Heap → Prop) : Exit → Act → World → Prop
  | .normal, a, w => ∃ ρ, Q .normal ρ w.heap ∧ Fits N ρ a ∧ Rest w0 w
  | .exit id, a, w => ∃ ρ, Q (.exit id) ρ w.heap ∧ Fits N ρ a ∧ Rest w0 w
  | .ret, a, w => ∃ ρ, Q .ret ρ w.heap ∧ Fits N ρ a ∧ Rest w0 w
  | _, _, _ => False

theorem leaf_fits {N : Nat} {l : Live} {j : Tup l → Heap → Prop} {ρ : PEnv} {h : Heap} {a : Act} (hl : leaf l j ρ h) (hf : Fits N ρ a) : ∃ x, j x h ∧ Fits N (mkL l x) a :=
  let ⟨x, hx, hs⟩ := leaf_spec hl; ⟨x, hx, hf.drop hs⟩

theorem sound {P : Program} {N : Nat} {w0 : World} : ∀ (c : Code) (p : Plan) (Q : X → PEnv → Heap → Prop), codeOk N c = true → obl P N c p Q →
    ∀ (ρ : PEnv) (a : Act) (w : World), ev P c p Q ρ w.heap → Fits N ρ a → Rest w0 w → c.wp P (up N w0 Q) a w := by
  intro c
  induction c with
  | skip => intro p Q hc ho ρ a w he hf hr; exact wp_skip ⟨ρ, he, hf, hr⟩
  | label l => intro p Q hc ho ρ a w he hf hr; exact wp_label ⟨ρ, he, hf, hr⟩
  | exit id => intro p Q hc ho ρ a w he hf hr; exact wp_exit ⟨ρ, he, hf, hr⟩
  | ret => intro p Q hc ho ρ a w he hf hr; exact wp_ret ⟨ρ, he, hf, hr⟩
  | region id ops draw =>
    intro p Q hc ho ρ a w he hf hr
    unfold ev at he
    unfold obl at ho
    cases draw with
    | false => exact wp_region (evL_sound hc (fun ρ a w hq hf hr => ⟨ρ, hq, hf, hr⟩) _ [] ρ a w hf hr he)
    | true =>
      cases p <;> simp only at he ho <;> try exact he.elim
      exact wp_region_draw (ho _ _ w0 (fun _ _ _ h => h) (fun _ _ h => h) (fun ρ a w hq hf hr => ⟨ρ, hq, hf, hr⟩) ρ a w hf hr he)
  | seq x y ihx ihy =>
    intro p Q hc ho ρ a w he hf hr
    unfold ev at he
    unfold obl at ho
    simp only [codeOk, Bool.and_eq_true] at hc
    have plain : ∀ (p q : Plan), obl P N x p (X.then (ev P y q Q) Q) ∧ obl P N y q Q → ev P x p (X.then (ev P y q Q) Q) ρ w.heap → (Code.seq x y).wp P (up N w0 Q) a w := by
      intro p q ho he
      refine wp_seq (wp_mono (ihx p _ hc.1 ho.1 ρ a w he hf hr) fun e a w hq => ?_)
      cases e with
      | normal => obtain ⟨ρ, h1, h2, h3⟩ := hq; exact ihy q Q hc.2 ho.2 ρ a w h1 h2 h3
      | exit id => exact hq
      | ret => exact hq
      | goto l => exact hq
      | panic c => exact hq
      | outgrown => exact hq
    cases p with
    | cut l j p q =>
      simp only at he ho
      obtain ⟨h1, h2, h3⟩ := ho
      refine wp_seq (wp_mono (ihx p _ hc.1 h1 ρ a w he hf hr) fun e a w hq => ?_)
      cases e with
      | normal =>
        obtain ⟨ρ, hl, hf, hr⟩ := hq
        obtain ⟨x, hx, hf⟩ := leaf_fits hl hf
        exact ihy q Q hc.2 h3 _ a w (h2 x _ hx) hf hr
      | exit id => exact hq
      | ret => exact hq
      | goto l => exact hq
      | panic c => exact hq
      | outgrown => exact hq
    | seq p q => exact plain p q ho he
    | _ => exact plain .go .go ho he
  | cond c x y ihx ihy =>
    intro p Q hc ho ρ a w he hf hr
    unfold ev at he
    unfold obl at ho
    simp only [codeOk, Bool.and_eq_true] at hc
    split at he
    · rename_i b hv
      have plain : ∀ (p q : Plan), obl P N x p Q ∧ obl P N y q Q → (b = true → ev P x p Q ρ w.heap) ∧ (b = false → ev P y q Q ρ w.heap) → (Code.cond c x y).wp P (up N w0 Q) a w := by
        intro p q ho he
        exact wp_cond_split (hf.val hv) (fun hb => ihx p Q hc.1 ho.1 ρ a w (he.1 hb) hf hr) (fun hb => ihy q Q hc.2 ho.2 ρ a w (he.2 hb) hf hr)
      cases p with
      | cond p q => exact plain p q ho he
      | _ => exact plain .go .go ho he
    · exact he.elim
  | block id c ih =>
    intro p Q hc ho ρ a w he hf hr
    unfold ev at he
    unfold obl at ho
    have plain : ∀ (p : Plan), obl P N c p (X.blk id Q) → ev P c p (X.blk id Q) ρ w.heap → (Code.block id c).wp P (up N w0 Q) a w := by
      intro p ho he
      refine wp_block (wp_mono (ih p _ hc ho ρ a w he hf hr) fun e a w hq => ?_)
      cases e with
      | normal => exact hq
      | exit i =>
        obtain ⟨ρ, hq, hf, hr⟩ := hq
        simp only [Exit.inBlock]
        by_cases e : i = id
        · subst e
          simp only [X.blk, Nat.beq_refl] at hq
          simp only [if_true]
          exact ⟨ρ, hq, hf, hr⟩
        · have hb : Nat.beq i id = false := by
            cases hb : Nat.beq i id
            · rfl
            · exact absurd (Nat.eq_of_beq_eq_true hb) e
          simp only [X.blk, hb] at hq
          simp only [e, if_false]
          exact ⟨ρ, hq, hf, hr⟩
      | ret => exact hq
      | goto l => exact hq
      | panic c => exact hq
      | outgrown => exact hq
    cases p with
    | block p => exact plain p ho he
    | _ => exact plain .go ho he
  | loop c ih =>
    intro p Q hc ho ρ a w he hf hr
    unfold ev at he
    unfold obl at ho
    cases p <;> simp only at he ho <;> try exact he.elim
    rename_i l j p
    split at he
    · rename_i x hx
      obtain ⟨n, hj⟩ := he
      have key : ∀ (n : Nat) (x : Tup l) (a : Act) (w : World), j n x w.heap → Fits N (mkL l x) a → Rest w0 w → Code.rounds P c (up N w0 Q) n a w := by
        intro n
        induction n with
        | zero => intro x a w hj; exact absurd hj (ho.1 x _)
        | succ n ihn =>
          intro x a w hj hf hr
          refine wp_mono (ih (p n) _ hc (ho.2.2 n) _ a w (ho.2.1 n x _ hj) hf hr) fun e a w hq => ?_
          cases e with
          | normal =>
            obtain ⟨ρ, hl, hf, hr⟩ := hq
            obtain ⟨x, hx, hf⟩ := leaf_fits hl hf
            exact ihn x a w hx hf hr
          | exit id => exact hq
          | ret => exact hq
          | goto l => exact hq
          | panic c => exact hq
          | outgrown => exact hq
      exact wp_loop_rounds n (key n x a w hj (hf.drop (rdL_spec hx)) hr)
    · exact he.elim
  | _ => intro p Q hc ho ρ a w he hf hr; exact he.elim

/-! ### Functions -/

def evRet (P : Program) (ρ : PEnv) (h : Heap) : List ResultVar → List Value → (List Value → Prop) → Prop
  | [], acc, k => k acc.reverse
  | .tmp t :: rs, acc, k => match get ρ t with
    | some v => evRet P ρ h rs (v :: acc) k
    | none => False
  | .cell t ty :: rs, acc, k => match get ρ t with
    | some (.pointer (some a)) => match scalar (P.underlying ty) with
      | true => exq (P.underlying ty) fun u => hcell h a = some u ∧ evRet P ρ h rs (u :: acc) k
      | false => match P.underlying ty with
        | some (.struct _) | some (.array _ _) => ∃ cs : List Value, rdC h a 0 (P.cellsOf ty) = some cs ∧ evRet P ρ h rs (.agg cs.toArray :: acc) k
        | _ => False
    | _ => False

def tuple1 : List Value → Value
  | [v] => v
  | vs => .tuple vs.toArray

def retQ (P : Program) (rs : List ResultVar) (K : Value → Heap → Prop) : X → PEnv → Heap → Prop
  | .normal, ρ, h => evRet P ρ h rs [] fun vs => K (tuple1 vs) h
  | .ret, ρ, h => evRet P ρ h rs [] fun vs => K (tuple1 vs) h
  | .exit _, _, _ => False

def args0 (i : Nat) : List Value → PEnv
  | [] => []
  | v :: vs => (i, v) :: args0 (i + 1) vs

def resOf (tmps : Array Value) : ResultVar → Sem Value
  | .tmp t => pure (tmps.getD t undef)
  | .cell a t => do loadVar t (← asAddr (tmps.getD a undef))

theorem results_eq (fn : Func) (tmps : Array Value) : results fn tmps = (do let vs ← fn.results.mapM (resOf tmps); pure (if h : vs.size = 1 then vs[0] else .tuple vs)) := rfl

theorem evRet_sound {P : Program} {N : Nat} {ρ : PEnv} {a : Act} {w : World} (hf : Fits N ρ a) : ∀ (rs : List ResultVar) (acc : List Value) (k : List Value → Prop), evRet P ρ w.heap rs acc k →
    ∃ vs, (rs.mapM (resOf a.tmps)).run P w = .ok vs w ∧ k (acc.reverse ++ vs)
  | [], acc, k, h => ⟨[], by simp, by simpa [evRet] using h⟩
  | .tmp t :: rs, acc, k, h => by
    unfold evRet at h
    split at h
    · rename_i v hv
      obtain ⟨vs, h1, h2⟩ := evRet_sound hf rs (v :: acc) k h
      refine ⟨v :: vs, ?_, by simpa using h2⟩
      simp only [List.mapM_cons, resOf, Sem.run_bind, Sem.run_pure, Result.andThen_ok]
      rw [h1]
      simp [hf.tmp t v hv]
    · exact h.elim
  | .cell t ty :: rs, acc, k, h => by
    have fin : ∀ (x : Addr) (u : Value), get ρ t = some (.pointer (some x)) → (loadVar ty x).run P w = .ok u w → evRet P ρ w.heap rs (u :: acc) k →
        ∃ vs, ((ResultVar.cell t ty :: rs).mapM (resOf a.tmps)).run P w = .ok vs w ∧ k (acc.reverse ++ vs) := by
      intro x u hx hl hk
      obtain ⟨vs, h1, h2⟩ := evRet_sound hf rs (u :: acc) k hk
      refine ⟨u :: vs, ?_, by simpa using h2⟩
      have hg : a.tmps.getD t undef = .pointer (some x) := by simp [hf.tmp t _ hx]
      have ha : (asAddr (a.tmps.getD t undef)).run P w = .ok x w := by rw [hg]; rfl
      simp only [List.mapM_cons, resOf, Sem.run_bind, ha, Sem.run_pure, Result.andThen_ok, hl]
      rw [h1]
      rfl
    unfold evRet at h
    split at h
    · rename_i x hx
      split at h
      · rename_i hs
        obtain ⟨u, hc, h⟩ := exq_spec h
        exact fin x u hx (run_loadVar_scalar hs hc) h
      · split at h
        · rename_i fs hu
          obtain ⟨cs, hc, h⟩ := h
          exact fin x _ hx (run_loadVar_agg hu rfl hc) h
        · rename_i n e hu
          obtain ⟨cs, hc, h⟩ := h
          exact fin x _ hx (run_loadVar_agg hu rfl hc) h
        · exact h.elim
    · exact h.elim

theorem args0_get : ∀ (vs : List Value) (i t : Nat) (v : Value), get (args0 i vs) t = some v → i ≤ t ∧ vs[t - i]? = some v
  | [], i, t, v, h => by simp [args0, get] at h
  | u :: vs, i, t, v, h => by
    simp only [args0, get_cons] at h
    split at h
    · rename_i e; subst e; simpa using h
    · rename_i e
      obtain ⟨h1, h2⟩ := args0_get vs (i + 1) t v h
      refine ⟨by omega, ?_⟩
      have : t - i = (t - (i + 1)) + 1 := by omega
      rw [this, List.getElem?_cons_succ]
      exact h2

theorem calls_of_ev {P : Program} {f : FuncId} {fn : Func} {c : Code} (p : Plan) {args : List Value} {K : Value → Heap → Prop} {h : Heap} (hfn : P.funcs[f]? = some fn) (hb : fn.body = some c)
    (hname : (fn.name != "runtime.NumGoroutine") = true) (hok : codeOk fn.ntmps c = true) (hargs : Nat.ble args.length fn.ntmps = true) (ho : obl P fn.ntmps c p (retQ P fn.results.toList K))
    (he : ev P c p (retQ P fn.results.toList K) (args0 0 args) h) : CallsH P f args K h := by
  refine ⟨by simp [hfn, hb, hname], fun w hw => ?_⟩
  subst hw
  have hlen := Nat.le_of_ble_eq_true hargs
  have hf : Fits fn.ntmps (args0 0 args) { tmps := args.toArray ++ Array.replicate (fn.ntmps - args.toArray.size) undef, defers := [] } := by
    refine ⟨by simp; omega, rfl, fun t v hv => ?_⟩
    obtain ⟨-, h2⟩ := args0_get args 0 t v hv
    simp only [Nat.sub_zero] at h2
    have hlt := (List.getElem?_eq_some_iff.1 h2).1
    rw [Array.getElem?_append_left (by simpa using hlt)]
    simpa using h2
  refine calls_of_wp hfn hb (wp_mono (sound (w0 := w) c p _ hok ho _ _ w he hf (Rest.refl w)) fun e a w' hq => ?_)
  have fin : ∀ ρ, (evRet P ρ w'.heap fn.results.toList [] fun vs => K (tuple1 vs) w'.heap) → Fits fn.ntmps ρ a → Rest w w' →
      a.defers = [] ∧ ∃ v, (results fn a.tmps).run P w' = .ok v w' ∧ ∃ u, Ending.returned v = .returned u ∧ K u w'.heap ∧ Rest w w' := by
    intro ρ hq hf hr
    refine ⟨hf.defers, ?_⟩
    obtain ⟨vs, h1, h2⟩ := evRet_sound hf _ _ _ hq
    simp only [List.reverse_nil, List.nil_append] at h2
    refine ⟨tuple1 vs, ?_, tuple1 vs, rfl, h2, hr⟩
    rw [results_eq]
    have hm : ∀ g : ResultVar → Sem Value, (fn.results.mapM g).run P w' = ((fn.results.toList.mapM g).run P w').andThen fun l w => .ok l.toArray w := by
      intro g
      rw [Array.mapM_eq_mapM_toList]
      simp only [Sem.run_map]
    simp only [Sem.run_bind]
    rw [hm]
    rw [h1]
    simp only [Result.andThen_ok, Sem.run_pure]
    congr 1
    match vs with
    | [] => rfl
    | [v] => rfl
    | u :: v :: vs => simp [tuple1]
  cases e with
  | normal => obtain ⟨ρ, hq, hf, hr⟩ := hq; exact fin ρ hq hf hr
  | ret => obtain ⟨ρ, hq, hf, hr⟩ := hq; exact fin ρ hq hf hr
  | exit id => obtain ⟨ρ, hq, hf, hr⟩ := hq; exact hq.elim
  | goto l => exact hq.elim
  | panic c => exact hq.elim
  | outgrown => exact hq.elim

end Go.Lift
