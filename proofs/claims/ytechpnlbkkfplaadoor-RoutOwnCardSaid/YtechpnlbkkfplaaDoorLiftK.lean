/- Keys that are arrays of two whole numbers; slices of structs. -/
import Derived.Test.YtechpnlbkkfplaaDoorLiftM
set_option linter.unusedSimpArgs false
namespace Go.Lift

def kk2 (k : IntKind) (x : Int × Int) : Value := .agg #[.int k x.1, .int k x.2]

theorem part_int {P : Program} {e : TypeId} {k : IntKind} (he : P.underlying e = some (.int k)) (cs : Array Value) (i : Nat) (v : Value) (hv : cs[i]? = some v) (w : World) : (part e cs i).run P w = .ok v w := by
  simp [part, isAgg, Go.run_underlying he, hv]

theorem equalIn_int {P : Program} {e : TypeId} {k : IntKind} (he : P.underlying e = some (.int k)) (d : Nat) (a b : Int) (w : World) : (Op.equalIn (d + 1) e (.int k a) (.int k b)).run P w = .ok (a == b) w := by
  simp [Op.equalIn, Go.run_underlying he]

theorem equalIn2 {P : Program} {kt e : TypeId} {k : IntKind} (hd : P.underlying kt = some (.array 2 e)) (he : P.underlying e = some (.int k)) (hs : (P.info? e).map (·.size) = some 1) (d : Nat) (a b : Int × Int) (w : World) :
    (Op.equalIn (d + 1 + 1) kt (kk2 k a) (kk2 k b)).run P w = .ok (decide (a = b)) w := by
  obtain ⟨i, hi, hiz⟩ := Option.map_eq_some_iff.1 hs
  rw [Op.equalIn.eq_def]
  simp only [Sem.run_bind, Go.run_underlying hd, Result.andThen_ok, kk2, sizeOf, typeInfo, hi, hiz, Sem.run_pure]
  simp [List.range', hi, hiz, part_int he, equalIn_int he]
  by_cases h1 : a.1 = b.1 <;> by_cases h2 : a.2 = b.2 <;> simp [h1, h2, Prod.ext_iff]
theorem checkKey2 {P : Program} {kt e : TypeId} {k : IntKind} (hd : P.underlying kt = some (.array 2 e)) (he : P.underlying e = some (.int k)) (hs : (P.info? e).map (·.size) = some 1) (d : Nat) (b : Bool) (a : Int × Int) (w : World) :
    (Instr.checkKey b (d + 1 + 1) kt (kk2 k a)).run P w = .ok () w := by
  obtain ⟨i, hi, hiz⟩ := Option.map_eq_some_iff.1 hs
  have h1 : ∀ x : Int, (Instr.checkKey b (d + 1) e (.int k x)).run P w = .ok () w := fun x => by simp [Instr.checkKey, Go.run_underlying he]
  rw [Instr.checkKey.eq_def]
  simp only [Sem.run_bind, Go.run_underlying hd, Result.andThen_ok, kk2, sizeOf, typeInfo, hi, hiz, Sem.run_pure]
  simp [List.range', hi, hiz, part_int he, h1]

theorem KeyL.arr2 {P : Program} {kt e : TypeId} {k : IntKind} (hd : P.underlying kt = some (.array 2 e)) (he : P.underlying e = some (.int k)) (hs : (P.info? e).map (·.size) = some 1) : KeyL P kt (kk2 k) :=
  KeyL.ask hd (fun a v => by cases v <;> rfl) (fun a b w => equalIn2 hd he hs 9998 a b w) (fun b x w => checkKey2 hd he hs 9998 b x w) (fun x => by
    show Instr.sameBits (9999 + 1) (kk2 k x) (kk2 k x) = true
    simp [kk2, Instr.sameBits])
/-! ### Slices of structs -/

theorem flat_get {α : Type} {f : α → List Value} {n : Nat} (hf : ∀ x, (f x).length = n) : ∀ (l : List α) (i : Nat) (x : α), l[i]? = some x → ((l.flatMap f).drop (i * n)).take n = f x
  | [], i, x, h => by simp at h
  | y :: t, 0, x, h => by
    simp only [List.getElem?_cons_zero, Option.some.injEq] at h
    subst h
    simp only [List.flatMap_cons, Nat.zero_mul, List.drop_zero]
    rw [List.take_append_of_le_length (by rw [hf]; exact Nat.le_refl _), List.take_of_length_le (by rw [hf]; exact Nat.le_refl _)]
  | y :: t, i + 1, x, h => by
    simp only [List.getElem?_cons_succ] at h
    have := flat_get hf t i x h
    simp only [List.flatMap_cons]
    rw [List.drop_append, List.drop_eq_nil_of_le (by rw [hf]; exact Nat.le_mul_of_pos_left _ (by omega)), List.nil_append, hf]
    rw [show (i + 1) * n - n = i * n by rw [Nat.add_mul]; omega]
    exact this

theorem flat_length {α : Type} {f : α → List Value} {n : Nat} (hf : ∀ x, (f x).length = n) : ∀ l : List α, (l.flatMap f).length = l.length * n
  | [] => by simp
  | y :: t => by simp [List.flatMap_cons, hf, flat_length hf t, Nat.add_mul, Nat.add_comm]

/-- The cells of element n. -/
theorem Sl.elem {α : Type} {f : α → List Value} {sz : Nat} (hf : ∀ x, (f x).length = sz) {h : Heap} {p : Option Addr} {l : Nat} {xs : List α} (m : Sl sz h p l (xs.flatMap f)) (hsz : 0 < sz) {n : Nat} {x : α} (hx : xs[n]? = some x) :
    ∃ a, p = some a ∧ At h (a.add (n * sz)) (f x) ∧ n < l := by
  have hn := (List.getElem?_eq_some_iff.1 hx).1
  have hl := m.1
  rw [flat_length hf] at hl
  have hl' : xs.length = l := Nat.eq_of_mul_eq_mul_right hsz hl
  cases p with
  | none =>
    have e := m.2
    simp only at e
    have := flat_length hf xs
    rw [e] at this
    simp only [List.length_nil] at this
    have h0 : 0 < xs.length * sz := Nat.mul_pos (by omega) hsz
    omega
  | some a =>
    refine ⟨a, rfl, ?_, by omega⟩
    have hd := (At.drop m.2 (n * sz)).take sz
    rwa [flat_get hf xs n x hx] at hd

theorem ixS {α : Type} {f : α → List Value} {sz : Nat} (hf : ∀ x, (f x).length = sz) (hsz : 0 < sz) {h : Heap} {p : Option Addr} {l : Nat} {xs : List α} (m : Sl sz h p l (xs.flatMap f)) {i : Int} {n : Nat} (hi : i = n) {x : α} (hx : xs[n]? = some x)
    {R : List Value → Prop} (hR : R (f x)) : ∃ a, p = some a ∧ (0 : Int) ≤ i ∧ i < ((l : Nat) : Int) ∧ ∃ cs, rdC h (Addr.add a (Int.toNat i * sz)) 0 sz = some cs ∧ R cs := by
  subst hi
  obtain ⟨a, e, ha, hl⟩ := Sl.elem hf m hsz hx
  exact ⟨a, e, by omega, by omega, f x, by rw [Int.toNat_natCast]; exact ha.rd (hf x), hR⟩

/-- One field of element n. -/
theorem ixF {α : Type} {f : α → List Value} {sz : Nat} (hf : ∀ x, (f x).length = sz) (hsz : 0 < sz) {h : Heap} {p : Option Addr} {l : Nat} {xs : List α} (m : Sl sz h p l (xs.flatMap f)) {i : Int} {n : Nat} (hi : i = n) {x : α} (hx : xs[n]? = some x) :
    ∃ a, p = some a ∧ (0 : Int) ≤ i ∧ i < ((l : Nat) : Int) ∧ ∀ k v, (f x)[k]? = some v → hcell h (Addr.add (Addr.add a (Int.toNat i * sz)) k) = some v := by
  subst hi
  obtain ⟨a, e, ha, hl⟩ := Sl.elem hf m hsz hx
  exact ⟨a, e, by omega, by omega, fun k v hv => by rw [Int.toNat_natCast]; exact ha.get hv⟩

/-- A struct that is copied into a box of its own. -/
theorem box_ok {h : Heap} {zs cs : List Value} {t : TypeId} (hz : zs.length = cs.length) (ho : ∀ c ∈ cs, one c = true) : ∃ h', stC (al h zs.toArray t) (top h) 0 cs = some h' ∧ Mem h' (top h) cs ∧ Kept h h' ∧ h'.size = h.size + 1 := by
  obtain ⟨h', e1, e2, e3, e4⟩ := stC_many (a := top h) (ws := cs) (i := 0) (Mem.new h zs t) (by omega) ho
  have e5 : zs.drop (0 + cs.length) = [] := List.drop_eq_nil_of_le (by omega)
  rw [e5] at e2
  refine ⟨h', e1, by simpa using e2, ?_, by rw [e4, al_size]⟩
  exact Keeps.trans' (Keeps.al _ h _ _) e3 fun i hi e => by rw [top_block] at e; omega

end Go.Lift
