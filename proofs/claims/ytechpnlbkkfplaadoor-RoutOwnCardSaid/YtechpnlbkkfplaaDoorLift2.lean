/- The lift, second text: one operation's telling is what the machine does. -/
import Derived.Test.YtechpnlbkkfplaaDoorLift
import Derived.Laws.Strings
namespace Go.Lift

def upto (P : Program) (w : World) (k : Value → Heap → Prop) : Result Next → Prop
  | .ok (.value v) w' => k v w'.heap ∧ Rest w w'
  | .ok .skip w' => k undef w'.heap ∧ Rest w w'
  | .ok (.enter f args) w' => Rest w w' ∧ Calls P f args w' (fun e w'' => ∃ v, e = .returned v ∧ k v w''.heap ∧ Rest w' w'')
  | _ => False

def OpOK (P : Program) (o : Oper) (a : Act) (w : World) (k : Value → Heap → Prop) : Prop := upto P w k ((execOp a.eval o).run P w)

section
variable {P : Program} {w : World} {k : Value → Heap → Prop}

theorem upto_value {v : Value} (h : k v w.heap) : upto P w k (.ok (.value v) w) := ⟨h, Rest.refl w⟩

theorem upto_value' {v : Value} {w' : World} (h : k v w'.heap) (hr : Rest w w') : upto P w k (.ok (.value v) w') := ⟨h, hr⟩

theorem run_typeInfo (t : TypeId) (i : TypeInfo) (h : P.info? t = some i) : (typeInfo t).run P w = .ok i w := by
  simp [typeInfo, h]

theorem run_underlying (t : TypeId) (d : TypeDesc) (h : P.underlying t = some d) : (underlying t).run P w = .ok d w := by
  simp [underlying, h]

theorem info_of_underlying {t : TypeId} {d : TypeDesc} (h : P.underlying t = some d) : ∃ i, P.info? t = some i := by
  unfold Program.underlying at h
  split at h <;> first | exact ⟨_, by assumption⟩ | cases h

theorem run_sizeOf (t : TypeId) (d : TypeDesc) (h : P.underlying t = some d) : (sizeOf t).run P w = .ok (P.cellsOf t) w := by
  obtain ⟨i, hi⟩ := info_of_underlying h
  simp [sizeOf, run_typeInfo t i hi, Program.cellsOf, hi]

theorem run_sizeOf' (t : TypeId) (h : Nat.beq (P.cellsOf t) 0 = false) : (sizeOf t).run P w = .ok (P.cellsOf t) w := by
  cases hi : P.info? t with
  | none => simp [Program.cellsOf, hi] at h
  | some i => simp [sizeOf, run_typeInfo t i hi, Program.cellsOf, hi]

theorem run_zeroValue (t : TypeId) (z : Value) (h : zinfo P t = some z) : (zeroValue t).run P w = .ok z w := by
  unfold zinfo at h
  cases hi : P.info? t with
  | none => simp [hi] at h
  | some i =>
    simp only [hi] at h
    simp [zeroValue, run_typeInfo t i hi, h]

theorem run_isAgg_scalar (t : TypeId) (h : scalar (P.underlying t) = true) : (isAgg t).run P w = .ok false w := by
  cases hu : P.underlying t with
  | none => simp [hu, scalar] at h
  | some d =>
    rw [hu] at h
    simp only [isAgg, Sem.run_bind, run_underlying t d hu, Result.andThen_ok]
    cases d <;> simp_all [scalar]

theorem exq_load {d : Option TypeDesc} {h : Heap} {a : Addr} (he : exq d fun u => hcell h a = some u ∧ k u h) : ∃ u, hcell h a = some u ∧ k u h := exq_spec he

theorem genH {h : Heap} {s : Sem Value} {T : Option TypeDesc} (hw : w.heap = h) (he : SemH P s (fun v h' => tyd P T v fun u => k u h') h) :
    ∃ v w', s.run P w = .ok v w' ∧ k v w'.heap ∧ Rest w w' := by
  obtain ⟨v, w', h1, h2, h3⟩ := he w hw
  exact ⟨v, w', h1, tyd_spec h2, h3⟩

theorem upto_gen {h : Heap} {s : Sem Value} {T : Option TypeDesc} (hw : w.heap = h) (he : SemH P s (fun v h' => tyd P T v fun u => k u h') h) :
    upto P w k ((do pure (Next.value (← s)) : Sem Next).run P w) := by
  obtain ⟨v, w', h1, h2, h3⟩ := genH hw he
  simp only [Sem.run_bind, h1, Result.andThen_ok, Sem.run_pure]
  exact ⟨h2, h3⟩

theorem upto_unit {h : Heap} {s : Sem Unit} (hw : w.heap = h) (he : SemH P (unit s) k h) :
    upto P w k ((do s; pure Next.skip : Sem Next).run P w) := by
  obtain ⟨v, w', h1, h2, h3⟩ := he w hw
  simp only [unit, Sem.run_bind] at h1
  cases hs : s.run P w with
  | halt x w'' => simp [hs] at h1
  | ok u w'' =>
    simp only [hs, Result.andThen_ok, Sem.run_pure, Result.ok.injEq] at h1
    obtain ⟨rfl, rfl⟩ := h1
    simp only [Sem.run_bind, hs, Result.andThen_ok, Sem.run_pure]
    exact ⟨h2, h3⟩

theorem upto_v {s : Sem Value} {v : Value} {w' : World} (h : s.run P w = .ok v w') (hk : k v w'.heap) (hr : Rest w w') :
    upto P w k ((do pure (Next.value (← s)) : Sem Next).run P w) := by
  simp only [Sem.run_bind, h, Result.andThen_ok, Sem.run_pure]
  exact ⟨hk, hr⟩

theorem upto_u {s : Sem Unit} {w' : World} (h : s.run P w = .ok () w') (hk : k undef w'.heap) (hr : Rest w w') :
    upto P w k ((do s; pure Next.skip : Sem Next).run P w) := by
  simp only [Sem.run_bind, h, Result.andThen_ok, Sem.run_pure]
  exact ⟨hk, hr⟩

theorem parts_eval {N : Nat} {ρ : PEnv} {a : Act} (h : Fits N ρ a) : ∀ {xs : List (Nat × Operand)} {vs : List (Nat × Value)}, ρ.parts xs = some vs → xs.map (fun p => (p.1, a.eval p.2)) = vs
  | [], vs, hx => by simp only [PEnv.parts, Option.some.injEq] at hx; simp [← hx]
  | x :: xs, vs, hx => by
    simp only [PEnv.parts] at hx
    cases h1 : ρ.val x.2 with
    | none => simp [h1] at hx
    | some v =>
      cases h2 : ρ.parts xs with
      | none => simp [h1, h2] at hx
      | some us =>
        simp only [h1, h2, Option.some.injEq] at hx
        subst hx
        simp [h.val h1, parts_eval h h2]

theorem one_cells {v : Value} (h : one v = true) : v.cells = #[v] := by cases v <;> simp_all [one, Value.cells]

theorem fillS_fill (pl : Nat → Option (Nat × Nat)) : ∀ (ps : List (Nat × Value)) (cells cs : List Value), fillS pl cells ps = some cs → Instr.fill pl cells.toArray ps = some cs.toArray
  | [], cells, cs, h => by simp only [fillS, Option.some.injEq] at h; subst h; rfl
  | p :: rest, cells, cs, h => by
    unfold fillS at h
    split at h
    · rename_i off hpl
      split at h
      · rename_i h1
        split at h
        · rename_i hlt
          have hlt' : off < cells.length := Nat.le_of_ble_eq_true hlt
          have hr := fillS_fill pl rest _ _ h
          obtain ⟨i, v⟩ := p
          simp only at hpl h1 hr
          simp only [Instr.fill, hpl, one_cells h1]
          rw [if_neg (by simp; omega)]
          simp only [Array.zipIdx]
          simpa using hr
        · cases h
      · cases h
    · cases h

theorem allOne_spec : ∀ {ps : List (Nat × Value)}, allOne ps = true → ∀ p ∈ ps, one p.2 = true
  | [], _, p, hp => by cases hp
  | q :: ps, h, p, hp => by
    unfold allOne at h
    split at h
    · rcases List.mem_cons.1 hp with rfl | hp
      · assumption
      · exact allOne_spec h p hp
    · cases h

theorem run_known {t : TypeId} (h : (P.info? t).isSome = true) : (sizeOf t).run P w = .ok (P.cellsOf t) w := by
  obtain ⟨i, hi⟩ := Option.isSome_iff_exists.1 h
  simp [sizeOf, run_typeInfo t i hi, Program.cellsOf, hi]

theorem run_mapM_sizes (l : List Field) (h : l.all (fun f => (P.info? f.type).isSome) = true) :
    (l.mapM (fun f => do pure (f.offset, ← sizeOf f.type)) : Sem (List (Nat × Nat))).run P w = .ok (l.map fun f => (f.offset, P.cellsOf f.type)) w := by
  induction l with
  | nil => simp
  | cons f l ih =>
    simp only [List.all_cons, Bool.and_eq_true] at h
    have h2 := ih h.2
    simp only [List.mapM_cons, Sem.run_bind, run_known h.1, Result.andThen_ok, Sem.run_pure, List.map_cons]
    rw [h2]
    rfl

theorem run_build {t : TypeId} {ps : Array (Nat × Value)} {z : Value} {cs : List Value} (hk : known P (P.underlying t) = true) (hz : zinfo P t = some z)
    (hf : Instr.fill (places P (P.underlying t)) z.cells ps.toList = some cs.toArray) : (Instr.build t ps).run P w = .ok (.agg cs.toArray) w := by
  cases hu : P.underlying t with
  | none => simp [hu, known] at hk
  | some d =>
    rw [hu] at hk hf
    simp only [Instr.build, Sem.run_bind, run_zeroValue t z hz, Result.andThen_ok, run_underlying t d hu]
    cases d with
    | struct fs =>
      simp only [known] at hk
      have hm : (fs.mapM (fun f => do pure (f.offset, ← sizeOf f.type)) : Sem (Array (Nat × Nat))).run P w = .ok (fs.map fun f => (f.offset, P.cellsOf f.type)) w := by
        rw [Array.mapM_eq_mapM_toList]
        simp only [Sem.run_map, run_mapM_sizes fs.toList hk, Result.andThen_ok]
        congr 1
        apply Array.toList_inj.1; simp
      simp only [Sem.run_bind, hm, Result.andThen_ok]
      have hp : (fun i => (fs.map fun f => (f.offset, P.cellsOf f.type))[i]?) = places P (some (.struct fs)) := by
        funext i
        simp only [places, Array.getElem?_map]
        cases fs[i]? <;> rfl
      rw [hp, hf]
      rfl
    | array n e =>
      simp only [known] at hk
      simp only [Sem.run_bind, run_known hk, Result.andThen_ok]
      have hp : (fun i => some (i * P.cellsOf e, P.cellsOf e)) = places P (some (.array n e)) := rfl
      rw [hp, hf]
      rfl
    | _ => simp [known] at hk

theorem zrow_eq (z : Array Value) (len size : Nat) : (Array.range (len * size)).map (fun i => z[i % z.size]!) = (zrow z.toList len size).toArray := by
  apply Array.toList_inj.1
  simp [zrow, List.getD]
  intro i _
  rw [getElem!_def]
  cases z[i % z.size]? <;> rfl

theorem mapArr {α β : Type} (f : α → β) (xs : Array α) : xs.map f = (xs.toList.map f).toArray := by
  apply Array.toList_inj.1; simp

theorem run_loadVar_scalar {t : TypeId} {a : Addr} {u : Value} (hs : scalar (P.underlying t) = true) (hc : hcell w.heap a = some u) : (loadVar t a).run P w = .ok u w := by
  simp only [loadVar, Sem.run_bind, run_isAgg_scalar t hs, Result.andThen_ok, Bool.false_eq_true, if_false]
  simp [run_load, cell_eq, hc]

theorem run_isAgg_agg {t : TypeId} {d : TypeDesc} (hu : P.underlying t = some d) (hd : (match d with | .struct _ => true | .array _ _ => true | _ => false) = true) : (isAgg t).run P w = .ok true w := by
  simp only [isAgg, Sem.run_bind, run_underlying t d hu, Result.andThen_ok]
  cases d <;> simp_all

theorem run_loadVar_agg {t : TypeId} {a : Addr} {d : TypeDesc} {cs : List Value} (hu : P.underlying t = some d) (hd : (match d with | .struct _ => true | .array _ _ => true | _ => false) = true)
    (hc : rdC w.heap a 0 (P.cellsOf t) = some cs) : (loadVar t a).run P w = .ok (.agg cs.toArray) w := by
  simp only [loadVar, Sem.run_bind, run_isAgg_agg hu hd, Result.andThen_ok, if_true, run_sizeOf t d hu, loadCells, run_loadCellsFrom P a w _ 0 #[] cs hc, Sem.run_pure]
  simp

theorem run_storeVar {t : TypeId} {a : Addr} {v : Value} {h' : Heap} (ht : (P.info? t).isSome = true) (hsz : v.cells.size = P.cellsOf t) (hst : stC w.heap a 0 v.cells.toList = some h') :
    ∃ w', (storeVar t a v).run P w = .ok () w' ∧ w'.heap = h' ∧ Rest w w' := by
  obtain ⟨w', h1, h2, h3⟩ := run_storeCells P a _ 0 w h' hst
  refine ⟨w', ?_, h2, h3⟩
  simp only [storeVar, Sem.run_bind, run_known ht, Result.andThen_ok]
  rw [if_neg (by omega)]
  exact h1

theorem run_part_scalar {t : TypeId} {cs : Array Value} {off : Nat} {u : Value} (hs : scalar (P.underlying t) = true) (hc : cs.toList[off]? = some u) : (part t cs off).run P w = .ok u w := by
  simp only [part, Sem.run_bind, run_isAgg_scalar t hs, Result.andThen_ok, Bool.false_eq_true, if_false]
  rw [← Array.getElem?_toList, hc]
  rfl

theorem run_part_agg {t : TypeId} {cs : Array Value} {off : Nat} {d : TypeDesc} (hu : P.underlying t = some d) (hd : (match d with | .struct _ => true | .array _ _ => true | _ => false) = true) :
    (part t cs off).run P w = .ok (.agg ((cs.toList.drop off).take (P.cellsOf t)).toArray) w := by
  simp only [part, Sem.run_bind, run_isAgg_agg hu hd, Result.andThen_ok, if_true, run_sizeOf t d hu, Sem.run_pure]
  congr 2
  apply Array.toList_inj.1
  simp [Array.toList_extract, List.extract_eq_take_drop]

theorem equal_depth (t : TypeId) (x y : Value) : ∃ d, Op.equal t x y = Op.equalIn (d + 1) t x y := ⟨9999, rfl⟩

theorem eq_bool {t : TypeId} (hu : P.underlying t = some .bool) (m n : Bool) : (Op.equal t (.bool m) (.bool n)).run P w = .ok (m == n) w := by
  obtain ⟨d, hd⟩ := equal_depth t (.bool m) (.bool n)
  rw [hd]
  unfold Op.equalIn
  simp only [Sem.run_bind, run_underlying t _ hu, Result.andThen_ok, Sem.run_pure]

theorem eq_slice {t e : TypeId} (hu : P.underlying t = some (.slice e)) (p : Option Addr) (l c l' c' : Nat) : (Op.equal t (.slice p l' c') (.slice none l c)).run P w = .ok p.isNone w := by
  obtain ⟨d, hd⟩ := equal_depth t (.slice p l' c') (.slice none l c)
  rw [hd]
  unfold Op.equalIn
  simp only [Sem.run_bind, run_underlying t _ hu, Result.andThen_ok]
  cases p <;> rfl

theorem eq_map {t ke e : TypeId} (hu : P.underlying t = some (.map ke e)) (p : Option Nat) : (Op.equal t (.map p) (.map none)).run P w = .ok p.isNone w := by
  obtain ⟨d, hd⟩ := equal_depth t (.map p) (.map none)
  rw [hd]
  unfold Op.equalIn
  simp only [Sem.run_bind, run_underlying t _ hu, Result.andThen_ok]
  cases p <;> rfl

theorem eq_pointer {t e : TypeId} (hu : P.underlying t = some (.pointer e)) (p : Option Addr) : (Op.equal t (.pointer p) (.pointer none)).run P w = .ok p.isNone w := by
  obtain ⟨d, hd⟩ := equal_depth t (.pointer p) (.pointer none)
  rw [hd]
  unfold Op.equalIn
  simp only [Sem.run_bind, run_underlying t _ hu, Result.andThen_ok]
  cases p <;> rfl

theorem bin_sound {op : BinOp} {t : TypeId} {x y : Operand} {a b : Value} {h : Heap} {T : Option TypeDesc} (hw : w.heap = h)
    (he : evBin P op t x y a b (fun v => k v h) (SemH P (do eqGuard op t x y a b; Go.binOp op t a b) (fun v h' => tyd P T v fun u => k u h') h))
    (hy : ∀ c, y = .const c → b = c) :
    ∃ v w', ((do eqGuard op t x y a b; Go.binOp op t a b) : Sem Value).run P w = .ok v w' ∧ k v w'.heap ∧ Rest w w' := by
  unfold evBin at he
  cases hu : P.underlying t with
  | none => simp only [hu] at he; exact genH hw he
  | some d =>
    simp only [hu] at he
    cases d with
    | int kd =>
      simp only at he
      split at he
      · rename_i ka m kb n
        have hg : (eqGuard op t x y (.int ka m) (.int kb n)).run P w = .ok () w := by
          unfold eqGuard
          split <;> simp
        simp only [Sem.run_bind, hg, Result.andThen_ok]
        cases op <;> simp only at he <;> first
          | (obtain ⟨h0, he⟩ := he
             refine ⟨_, w, ?_, by rw [hw]; exact he, Rest.refl w⟩
             simp only [Go.binOp, Op.shift]
             rw [if_neg (by omega)]
             rfl)
          | (split at he
             · rename_i hk
               subst hk
               first
                 | (obtain ⟨h0, he⟩ := he
                    refine ⟨_, w, ?_, by rw [hw]; exact he, Rest.refl w⟩
                    simp only [Go.binOp, ne_eq, not_true_eq_false, if_false, Op.intDiv, h0]
                    rfl)
                 | (refine ⟨_, w, ?_, by rw [hw]; exact he, Rest.refl w⟩
                    simp [Go.binOp, Op.intArith, Op.intBits, Op.intCmp, bitsI])
             · exact he.elim)
      · exact he.elim
    | string =>
      simp only at he
      split at he
      · rename_i m n
        have hg : (eqGuard op t x y (.string m) (.string n)).run P w = .ok () w := by
          unfold eqGuard
          split <;> simp
        simp only [Sem.run_bind, hg, Result.andThen_ok]
        cases op <;> simp only at he <;> first
          | exact he.elim
          | (obtain ⟨h0, he⟩ := he
             refine ⟨_, w, ?_, by rw [hw]; exact he, Rest.refl w⟩
             simp only [Go.binOp, Op.stringOp]
             rw [if_neg (by rw [sl_length, sl_length] at h0; exact Int.not_lt.2 (show ((m.size + n.size : Nat) : Int) ≤ IntKind.i64.max from h0)), sl_append]
             rfl)
          | (refine ⟨_, w, ?_, by rw [hw]; exact he, Rest.refl w⟩
             simp [Go.binOp, Op.stringOp, ByteArray.toList_eq, sl])
      · exact he.elim
    | bool =>
      simp only at he
      split at he
      · rename_i m n
        have hg : (eqGuard op t x y (.bool m) (.bool n)).run P w = .ok () w := by
          unfold eqGuard
          split <;> simp
        have hq := eq_bool (w := w) hu m n
        simp only [Sem.run_bind, hg, Result.andThen_ok]
        cases op <;> simp only at he <;> first
          | exact he.elim
          | (refine ⟨_, w, ?_, by rw [hw]; exact he, Rest.refl w⟩
             simp only [Go.binOp, Sem.run_bind, hq, Result.andThen_ok, Sem.run_pure])
      · exact he.elim
    | slice e =>
      simp only at he
      split at he
      · rename_i l c
        split at he <;> try exact he.elim
        rename_i p l' c'
        obtain rfl := hy _ rfl
        have hg : (eqGuard op t x (.const (.slice none l c)) (.slice p l' c') (.slice none l c)).run P w = .ok () w := by
          unfold eqGuard
          split <;> simp
        have hq := eq_slice (w := w) hu p l c l' c'
        simp only [Sem.run_bind, hg, Result.andThen_ok]
        cases op <;> simp only at he <;> first
          | exact he.elim
          | (refine ⟨_, w, ?_, by rw [hw]; exact he, Rest.refl w⟩
             simp only [Go.binOp, Sem.run_bind, hq, Result.andThen_ok, Sem.run_pure])
      · exact genH hw he
    | map ke e =>
      simp only at he
      split at he
      · split at he <;> try exact he.elim
        rename_i p
        obtain rfl := hy _ rfl
        have hg : (eqGuard op t x (.const (.map none)) (.map p) (.map none)).run P w = .ok () w := by
          unfold eqGuard
          split <;> simp
        have hq := eq_map (w := w) hu p
        simp only [Sem.run_bind, hg, Result.andThen_ok]
        cases op <;> simp only at he <;> first
          | exact he.elim
          | (refine ⟨_, w, ?_, by rw [hw]; exact he, Rest.refl w⟩
             simp only [Go.binOp, Sem.run_bind, hq, Result.andThen_ok, Sem.run_pure])
      · exact genH hw he
    | pointer e =>
      simp only at he
      split at he
      · split at he <;> try exact he.elim
        rename_i p
        obtain rfl := hy _ rfl
        have hg : (eqGuard op t x (.const (.pointer none)) (.pointer p) (.pointer none)).run P w = .ok () w := by
          unfold eqGuard
          split <;> simp
        have hq := eq_pointer (w := w) hu p
        simp only [Sem.run_bind, hg, Result.andThen_ok]
        cases op <;> simp only at he <;> first
          | exact he.elim
          | (refine ⟨_, w, ?_, by rw [hw]; exact he, Rest.refl w⟩
             simp only [Go.binOp, Sem.run_bind, hq, Result.andThen_ok, Sem.run_pure])
      · exact genH hw he
    | _ => exact genH hw he
theorem conv_sound {src dst : TypeId} {v : Value} {h : Heap} {T : Option TypeDesc} (hw : w.heap = h)
    (he : evConv P src dst v (fun v => k v h) (SemH P (Go.convert src dst v) (fun v h' => tyd P T v fun u => k u h') h)) :
    ∃ u w', (Go.convert src dst v).run P w = .ok u w' ∧ k u w'.heap ∧ Rest w w' := by
  unfold evConv at he
  split at he
  · rename_i h1 h2
    split at he
    · refine ⟨_, w, ?_, by rw [hw]; exact he, Rest.refl w⟩
      unfold Go.convert
      simp only [Sem.run_bind, run_underlying _ _ h1, run_underlying _ _ h2, Result.andThen_ok, Conv.intToInt, Sem.run_pure]
    · exact he.elim
  · rename_i h1 h2
    split at he
    · refine ⟨_, w, ?_, by rw [hw]; exact he, Rest.refl w⟩
      unfold Go.convert
      simp only [Sem.run_bind, run_underlying _ _ h1, run_underlying _ _ h2, Result.andThen_ok, Sem.run_pure]
    · exact he.elim
  · exact genH hw he

theorem run_sliceBound {kd : IntKind} {i : Int} {y : Nat} {code : BoundsCode} (hb : inB i y) : (Instr.sliceBound (.int kd i) y code).run P w = .ok i.toNat w := by
  unfold Instr.sliceBound
  simp only [Sem.run_bind, asIntOf, Sem.run_pure, Result.andThen_ok]
  rw [if_pos (show 0 ≤ i ∧ i ≤ (y : Int) from hb)]
  rfl

theorem slice_sound {t : TypeId} {v : Value} {lo hi : Option Value} {h : Heap} {T : Option TypeDesc} (hw : w.heap = h)
    (he : evSlice P t v lo hi (fun v => k v h) (SemH P (Instr.sliceAt t v lo hi none) (fun v h' => tyd P T v fun u => k u h') h)) :
    ∃ u w', (Instr.sliceAt t v lo hi none).run P w = .ok u w' ∧ k u w'.heap ∧ Rest w w' := by
  unfold evSlice at he
  split at he
  · rename_i hu
    split at he <;> try exact he.elim
    rename_i s
    have e0 : s.extract 0 s.size = s := by rw [sl_extract]; apply sl_ext; rw [sl_mkS, ← sl_length]; simp
    have e1 : ∀ l, s.extract l s.size = mkS ((sl s).drop l) := fun l => by rw [sl_extract, ← sl_length, List.take_length]
    have e2 : ∀ h, s.extract 0 h = mkS ((sl s).take h) := fun h => by rw [sl_extract, List.drop_zero]
    split at he
    · refine ⟨_, w, ?_, by rw [hw]; exact he, Rest.refl w⟩
      have hr : (Instr.sliceAt t (.string s) none none none).run P w = .ok (.string (s.extract 0 s.size)) w := by
        simp [Instr.sliceAt, run_underlying _ _ hu, Instr.slice, Instr.sliceBounds]
      rw [hr, e0]
    · obtain ⟨hl, he⟩ := he
      rw [sl_length] at hl
      refine ⟨_, w, ?_, by rw [hw]; exact he, Rest.refl w⟩
      simp [Instr.sliceAt, run_underlying _ _ hu, Instr.slice, Instr.sliceBounds, run_sliceBound hl, e1]
    · obtain ⟨hl, he⟩ := he
      rw [sl_length] at hl
      refine ⟨_, w, ?_, by rw [hw]; exact he, Rest.refl w⟩
      simp [Instr.sliceAt, run_underlying _ _ hu, Instr.slice, Instr.sliceBounds, run_sliceBound hl, e2]
    · obtain ⟨hl, hl', he⟩ := he
      rw [sl_length] at hl
      refine ⟨_, w, ?_, by rw [hw]; exact he, Rest.refl w⟩
      simp [Instr.sliceAt, run_underlying _ _ hu, Instr.slice, Instr.sliceBounds, run_sliceBound hl, run_sliceBound hl', sl_extract]
    · exact he.elim
  · rename_i e hu
    split at he <;> try exact he.elim
    rename_i a len cap
    split at he
    · rename_i hk
      split at he
      · refine ⟨_, w, ?_, by rw [hw]; exact he, Rest.refl w⟩
        simp [Instr.sliceAt, run_underlying _ _ hu, Instr.slice, Instr.sliceBounds, run_known hk, slA]
      · obtain ⟨hl, he⟩ := he
        refine ⟨_, w, ?_, by rw [hw]; exact he, Rest.refl w⟩
        simp [Instr.sliceAt, run_underlying _ _ hu, Instr.slice, Instr.sliceBounds, run_sliceBound hl, run_known hk, slA]
      · obtain ⟨hl, he⟩ := he
        refine ⟨_, w, ?_, by rw [hw]; exact he, Rest.refl w⟩
        simp [Instr.sliceAt, run_underlying _ _ hu, Instr.slice, Instr.sliceBounds, run_sliceBound hl, run_known hk, slA]
      · obtain ⟨hl, hl', he⟩ := he
        refine ⟨_, w, ?_, by rw [hw]; exact he, Rest.refl w⟩
        simp [Instr.sliceAt, run_underlying _ _ hu, Instr.slice, Instr.sliceBounds, run_sliceBound hl, run_sliceBound hl', run_known hk, slA]
      · exact he.elim
    · exact he.elim
  · exact genH hw he

theorem calls_upto {f : FuncId} {vs : List Value} {h : Heap} {T : Option TypeDesc} (hw : w.heap = h)
    (he : CallsH P f vs (fun v h' => tyd P T v fun u => k u h') h) : upto P w k ((callFunc f vs.toArray).run P w) := by
  obtain ⟨hb, hc⟩ := he
  cases hf : P.funcs[f]? with
  | none => simp [hf] at hb
  | some fn =>
    simp only [hf, Bool.and_eq_true, bne_iff_ne, ne_eq] at hb
    obtain ⟨b, hbody⟩ := Option.isSome_iff_exists.1 hb.1
    simp only [callFunc, Sem.run_bind, run_program, Result.andThen_ok, hf]
    have hn : (fn.name == "runtime.NumGoroutine") = false := by simpa using hb.2
    simp only [hn, Bool.false_eq_true, if_false, hbody, Option.isNone_some, Sem.run_pure]
    exact ⟨Rest.refl w, (hc w hw).mono fun e w' ⟨v, h1, h2, h3⟩ => ⟨v, h1, tyd_spec h2, h3⟩⟩

theorem scalar_info {t : TypeId} (h : scalar (P.underlying t) = true) : (P.info? t).isSome = true := by
  cases hu : P.underlying t with
  | none => simp [hu, scalar] at h
  | some d => obtain ⟨i, hi⟩ := info_of_underlying hu; simp [hi]

theorem evOp_sound {N : Nat} {o : Oper} {ρ : PEnv} {a : Act} {h : Heap} (hf : Fits N ρ a) (hw : w.heap = h) (he : evOp P o ρ h k) : OpOK P o a w k := by
  obtain ⟨dst, op, type, pos, after, guard⟩ := o
  unfold OpOK execOp
  unfold evOp at he
  cases op with
  | move x =>
    simp only at he ⊢
    split at he
    · rename_i v hv; rw [hf.val hv]; exact upto_value (by rw [hw]; exact he)
    · exact he.elim
  | assign x =>
    simp only at he ⊢
    split at he
    · rename_i v hv; rw [hf.val hv]; exact upto_value (by rw [hw]; exact he)
    · exact he.elim
  | alloc e =>
    simp only at he ⊢
    split at he
    · rename_i z hz
      refine upto_v (w' := { w with heap := w.heap.push (.cells z.cells e) }) (v := .pointer (some ⟨w.heap.size, 0, none⟩)) ?_ ?_ (Rest.push w _)
      · simp [Instr.alloc, run_zeroValue e z hz, newVar, newRow]
      · rw [hw]; exact he
    · exact he.elim
  | box e x =>
    simp only at he ⊢
    split at he
    · rename_i v hv
      rw [hf.val hv]
      refine upto_v (w' := { w with heap := w.heap.push (.cells v.cells e) }) (v := .pointer (some ⟨w.heap.size, 0, none⟩)) ?_ ?_ (Rest.push w _)
      · simp [Instr.box, newVar, newRow]
      · rw [hw]; exact he
    · exact he.elim
  | build t ps =>
    simp only at he ⊢
    split at he
    · rename_i vs z hk hp hz
      have hps : (ps.map fun x => (x.1, a.eval x.2)).toList = vs := by simpa using parts_eval hf hp
      split at he
      · split at he
        · rename_i cs hfs
          refine upto_v (w' := w) (v := .agg cs.toArray) ?_ (by rw [hw]; exact he) (Rest.refl w)
          exact run_build hk hz (by rw [hps]; simpa using fillS_fill _ _ _ _ hfs)
        · exact he.elim
      · obtain ⟨cs, hfs, he⟩ := he
        refine upto_v (w' := w) (v := .agg cs.toArray) ?_ (by rw [hw]; exact he) (Rest.refl w)
        exact run_build hk hz (by rw [hps]; exact hfs)
    · exact he.elim
  | buildSlice t len ps =>
    simp only at he ⊢
    split at he
    · rename_i e hu
      split at he
      · rename_i vs z hk hp hz
        have hps : (ps.map fun x => (x.1, a.eval x.2)).toList = vs := by simpa using parts_eval hf hp
        have pl : (fun i => some (i * P.cellsOf e, P.cellsOf e)) = places P (P.underlying t) := by rw [hu]; rfl
        split at he
        · rename_i h24 h0
          have h24' := Nat.le_of_ble_eq_true h24
          have h0' : len * P.cellsOf e = 0 := by simpa using h0
          split at he
          · refine upto_v (w' := { w with heap := w.heap.push (.cells #[] e) }) (v := .slice (some ⟨w.heap.size, 0, none⟩) len len) ?_ (by rw [hw]; exact he) (Rest.push w _)
            simp only [Instr.buildSlice, Sem.run_bind, run_underlying t _ hu, Result.andThen_ok, run_known hk]
            rw [if_neg (show ¬ len * P.cellsOf e > 2 ^ 24 by omega), if_pos h0']
            have hr : (Array.range 0).map (fun x => (#[] : Array Value)[x % (#[] : Array Value).size]!) = #[] := by simp
            simp only [Sem.run_bind, Sem.run_pure, Result.andThen_ok, hps, Instr.fill, newRow, run_newObj, h0', hr]
          · exact he.elim
        · rename_i h24 h0
          have h24' := Nat.le_of_ble_eq_true h24
          have h0' : ¬ len * P.cellsOf e = 0 := by simpa using h0
          have key : ∀ cs : List Value, Instr.fill (places P (P.underlying t)) (zrow z.cells.toList len (P.cellsOf e)).toArray vs = some cs.toArray →
              (Instr.buildSlice t len (ps.map fun x => (x.1, a.eval x.2))).run P w = .ok (.slice (some ⟨w.heap.size, 0, none⟩) len len) { w with heap := w.heap.push (.cells cs.toArray e) } := by
            intro cs hfs
            simp only [Instr.buildSlice, Sem.run_bind, run_underlying t _ hu, Result.andThen_ok, run_known hk]
            rw [if_neg (show ¬ len * P.cellsOf e > 2 ^ 24 by omega), if_neg h0']
            simp only [Sem.run_bind, run_zeroValue e z hz, Result.andThen_ok, Sem.run_pure, zrow_eq, hps, pl, hfs, newRow, run_newObj]
          split at he
          · split at he
            · rename_i cs hfs
              exact upto_v (key cs (fillS_fill _ _ _ _ hfs)) (by rw [hw]; exact he) (Rest.push w _)
            · exact he.elim
          · obtain ⟨cs, hfs, he⟩ := he
            exact upto_v (key cs hfs) (by rw [hw]; exact he) (Rest.push w _)
        · exact he.elim
      · exact he.elim
    · exact he.elim
  | load t x =>
    simp only at he ⊢
    split at he
    · rename_i p hv
      rw [hf.val hv]
      split at he
      · rename_i hs
        obtain ⟨u, hc, he⟩ := exq_spec he
        refine upto_v (w' := w) (v := u) ?_ (by rw [hw]; exact he) (Rest.refl w)
        simp only [Instr.loadAt, Instr.sureAddr, Sem.run_bind, Sem.run_pure, Result.andThen_ok, run_loadVar_scalar hs (hw ▸ hc)]
      · split at he
        · rename_i fs hu
          obtain ⟨cs, hc, he⟩ := he
          refine upto_v (w' := w) (v := .agg cs.toArray) ?_ (by rw [hw]; exact he) (Rest.refl w)
          simp only [Instr.loadAt, Instr.sureAddr, Sem.run_bind, Sem.run_pure, Result.andThen_ok, run_loadVar_agg hu rfl (hw ▸ hc)]
        · rename_i n e hu
          obtain ⟨cs, hc, he⟩ := he
          refine upto_v (w' := w) (v := .agg cs.toArray) ?_ (by rw [hw]; exact he) (Rest.refl w)
          simp only [Instr.loadAt, Instr.sureAddr, Sem.run_bind, Sem.run_pure, Result.andThen_ok, run_loadVar_agg hu rfl (hw ▸ hc)]
        · exact he.elim
    · exact he.elim
  | store t x y =>
    simp only at he ⊢
    split at he
    · rename_i p v hx hv
      rw [hf.val hx, hf.val hv]
      have go : ∀ (h' : Heap), (P.info? t).isSome = true → v.cells.size = P.cellsOf t → stC h p 0 v.cells.toList = some h' → k undef h' →
          upto P w k ((do Instr.storeAt t (.pointer (some p)) v; pure Next.skip : Sem Next).run P w) := by
        intro h' hi hsz hst hk
        obtain ⟨w', h1, h2, h3⟩ := run_storeVar (P := P) (w := w) hi hsz (hw ▸ hst)
        refine upto_u (w' := w') ?_ (by rw [h2]; exact hk) h3
        simp only [Instr.storeAt, Instr.sureAddr, Sem.run_bind, Sem.run_pure, Result.andThen_ok, h1]
      split at he
      · rename_i hs
        split at he
        · rename_i h1 h2
          obtain ⟨h', hst, he⟩ := he
          have hc := one_cells h2
          exact go h' (scalar_info hs) (by rw [hc, Nat.eq_of_beq_eq_true h1]; rfl) (by rw [hc]; exact hst) he
        · exact he.elim
      · split at he
        · rename_i fs cs hu
          obtain ⟨hl, h', hst, he⟩ := he
          obtain ⟨i, hi⟩ := info_of_underlying hu
          exact go h' (by simp [hi]) (by simpa [Value.cells] using hl) hst he
        · rename_i n e cs hu
          obtain ⟨hl, h', hst, he⟩ := he
          obtain ⟨i, hi⟩ := info_of_underlying hu
          exact go h' (by simp [hi]) (by simpa [Value.cells] using hl) hst he
        · exact he.elim
    · exact he.elim
  | nilCheck x =>
    simp only at he ⊢
    split at he
    · rename_i p hx
      obtain ⟨q, rfl, he⟩ := he
      rw [hf.val hx]
      exact upto_value (by rw [hw]; exact he)
    · exact he.elim
  | binOp op t x y t' =>
    simp only at he ⊢
    split at he
    · rename_i va vb hx hy
      rw [hf.val hx, hf.val hy]
      obtain ⟨v, w', h1, h2, h3⟩ := bin_sound hw he (fun c hc => by subst hc; simpa [PEnv.val, eq_comm] using hy)
      exact upto_v h1 h2 h3
    · exact he.elim
  | unOp op t x =>
    simp only at he ⊢
    split at he
    · split at he
      · rename_i b hx
        rw [hf.val hx]
        exact upto_v (w' := w) (v := .bool (!b)) rfl (by rw [hw]; exact he) (Rest.refl w)
      · exact he.elim
    · split at he
      · rename_i kd n hx
        rw [hf.val hx]
        exact upto_v (w' := w) (v := .int kd (kd.wrap (0 - n))) rfl (by rw [hw]; exact he) (Rest.refl w)
      · exact he.elim
    · split at he
      · rename_i v hx
        rw [hf.val hx]
        exact upto_gen hw he
      · exact he.elim
  | convert src dst x =>
    simp only at he ⊢
    split at he
    · rename_i v hx
      rw [hf.val hx]
      obtain ⟨v, w', h1, h2, h3⟩ := conv_sound hw he
      exact upto_v h1 h2 h3
    · exact he.elim
  | makeFunc fn first cap =>
    simp only at he ⊢
    split at he
    · rename_i fs cs h1 h2
      have e1 : first.map a.eval = fs.toArray := by rw [mapArr, hf.vals h1]
      have e2 : cap.map a.eval = cs.toArray := by rw [mapArr, hf.vals h2]
      rw [e1, e2]
      exact upto_v (w' := w) rfl (by rw [hw]; exact he) (Rest.refl w)
    · exact he.elim
  | makeMap t r =>
    simp only at he ⊢
    split at he
    · refine upto_v (w' := { w with heap := w.heap.push (.map #[] 0) }) (v := .map (some w.heap.size)) ?_ (by rw [hw]; exact he) (Rest.push w _)
      simp [Instr.makeMap]
    · exact he.elim
  | makeSlice t l c =>
    simp only at he ⊢
    split at he
    · rename_i vl vc h1 h2
      rw [hf.val h1, hf.val h2]
      exact upto_gen hw he
    · exact he.elim
  | slice t x lo hi mx =>
    have opt : ∀ (y : Option Operand) (u : Option Value), ρ.opt y = some u → y.map a.eval = u := by
      intro y u hu
      cases y with
      | none => simpa [PEnv.opt] using hu
      | some z =>
        simp only [PEnv.opt] at hu
        cases hz : ρ.val z with
        | none => simp [hz] at hu
        | some v => simp only [hz, Option.some.injEq] at hu; subst hu; simp [hf.val hz]
    simp only at he ⊢
    split at he
    · exact he.elim
    · split at he
      · rename_i v l u hx hl hu
        rw [hf.val hx, opt _ _ hl, opt _ _ hu]
        obtain ⟨v, w', h1, h2, h3⟩ := slice_sound hw he
        exact upto_v h1 h2 h3
      · exact he.elim
  | fieldAddr s x f =>
    simp only at he ⊢
    split at he
    · rename_i fs hu
      split at he
      · rename_i fd p hfd hx
        rw [hf.val hx]
        split at he
        · rename_i hz
          refine upto_v (w' := w) (v := .pointer (some (p.add fd.offset))) ?_ (by rw [hw]; exact he) (Rest.refl w)
          have hnz : ¬ P.cellsOf fd.type = 0 := by intro h0; rw [h0] at hz; cases hz
          simp [Instr.fieldAt, run_underlying s _ hu, hfd, Instr.sureAddr, fieldPlace, run_sizeOf' fd.type hz, hnz]
        · exact he.elim
      · exact he.elim
    · exact he.elim
  | field t x f =>
    simp only at he ⊢
    split at he
    · rename_i fs hu
      split at he
      · rename_i fd cs hfd hx
        rw [hf.val hx]
        split at he
        · rename_i hs
          obtain ⟨u, hc, he⟩ := exq_spec he
          refine upto_v (w' := w) (v := u) ?_ (by rw [hw]; exact he) (Rest.refl w)
          simp [Instr.field, run_underlying t _ hu, hfd, asAgg, run_part_scalar hs hc]
        · split at he
          · rename_i fs' hu'
            refine upto_v (w' := w) ?_ (by rw [hw]; exact he) (Rest.refl w)
            simp [Instr.field, run_underlying t _ hu, hfd, asAgg, run_part_agg hu' rfl]
          · rename_i n e hu'
            refine upto_v (w' := w) ?_ (by rw [hw]; exact he) (Rest.refl w)
            simp [Instr.field, run_underlying t _ hu, hfd, asAgg, run_part_agg hu' rfl]
          · exact he.elim
      · exact he.elim
    · exact he.elim
  | indexAddr t x ix =>
    simp only at he ⊢
    split at he
    · rename_i e p len c kd i hu hx hi
      rw [hf.val hx, hf.val hi]
      split at he
      · rename_i hk
        obtain ⟨q, rfl, h0, h1, he⟩ := he
        refine upto_v (w' := w) (v := .pointer (some (q.add (i.toNat * P.cellsOf e)))) ?_ (by rw [hw]; exact he) (Rest.refl w)
        simp [Instr.indexAt, asIntOf, run_underlying t _ hu, h0, h1, run_known hk]
      · exact he.elim
    · rename_i n e q kd i hu hx hi
      rw [hf.val hx, hf.val hi]
      split at he
      · rename_i hk
        obtain ⟨h0, h1, he⟩ := he
        refine upto_v (w' := w) (v := .pointer (some (q.add (i.toNat * P.cellsOf e)))) ?_ (by rw [hw]; exact he) (Rest.refl w)
        simp [Instr.indexAt, asIntOf, run_underlying t _ hu, h0, h1, run_known hk, Instr.sureAddr]
      · exact he.elim
    · exact he.elim
  | index t x ix =>
    simp only at he ⊢
    split at he
    · rename_i s kd i hu hx hi
      rw [hf.val hx, hf.val hi]
      obtain ⟨h0, h1, he⟩ := he
      refine upto_v (w' := w) (v := .int .u8 (sbyte s i)) ?_ (by rw [hw]; exact he) (Rest.refl w)
      rw [sl_length] at h1
      have hlt : i.toNat < s.size := by omega
      have hb : s[i.toNat]? = some s[i.toNat] := by simp [hlt]
      have hs : sbyte s i = s[i.toNat].toNat := by
        unfold sbyte lb sl
        have hlt' : i.toNat < s.data.toList.length := by simpa using hlt
        rw [List.getD_eq_getElem?_getD, List.getElem?_eq_getElem hlt']
        rfl
      simp only [Instr.index, Sem.run_bind, asIntOf, Sem.run_pure, Result.andThen_ok, run_underlying t _ hu, h0, if_true, hb, hs]
    · rename_i n e cs kd i hu hx hi
      rw [hf.val hx, hf.val hi]
      split at he
      · rename_i hk
        obtain ⟨h0, h1, he⟩ := he
        split at he
        · rename_i hs
          obtain ⟨u, hc, he⟩ := exq_spec he
          refine upto_v (w' := w) (v := u) ?_ (by rw [hw]; exact he) (Rest.refl w)
          simp [Instr.index, asIntOf, run_underlying t _ hu, h0, h1, run_known hk, run_part_scalar hs hc]
        · split at he
          · rename_i fs' hu'
            refine upto_v (w' := w) ?_ (by rw [hw]; exact he) (Rest.refl w)
            simp [Instr.index, asIntOf, run_underlying t _ hu, h0, h1, run_known hk, run_part_agg hu' rfl]
          · rename_i n e hu'
            refine upto_v (w' := w) ?_ (by rw [hw]; exact he) (Rest.refl w)
            simp [Instr.index, asIntOf, run_underlying t _ hu, h0, h1, run_known hk, run_part_agg hu' rfl]
          · exact he.elim
      · exact he.elim
    · exact he.elim
  | lookup t x ix ok =>
    simp only at he ⊢
    split at he
    · rename_i m v h1 h2
      rw [hf.val h1, hf.val h2]
      exact upto_gen hw he
    · exact he.elim
  | mapUpdate t m x y =>
    simp only at he ⊢
    split at he
    · rename_i vm vx vy h1 h2 h3
      rw [hf.val h1, hf.val h2, hf.val h3]
      exact upto_unit hw he
    · exact he.elim
  | insert t m x y =>
    simp only at he ⊢
    split at he
    · rename_i vm vx vy h1 h2 h3
      rw [hf.val h1, hf.val h2, hf.val h3]
      exact upto_unit hw he
    · exact he.elim
  | mapEntry t m x =>
    simp only at he ⊢
    split at he
    · rename_i vm vx h1 h2
      rw [hf.val h1, hf.val h2]
      exact upto_gen hw he
    · exact he.elim
  | entryStore t m s x =>
    simp only at he ⊢
    split at he
    · rename_i vm vx vy h1 h2 h3
      rw [hf.val h1, hf.val h2, hf.val h3]
      exact upto_unit hw he
    · exact he.elim
  | range t x =>
    simp only at he ⊢
    split at he
    · rename_i v h1
      rw [hf.val h1]
      obtain ⟨v', w', e1, ⟨a', e2, e2'⟩, e3⟩ := he w hw
      simp only [Sem.run_bind, e1, Result.andThen_ok, Sem.run_pure]
      exact ⟨by rw [e2]; exact e2', e3⟩
    · exact he.elim
  | next it s =>
    simp only at he ⊢
    split at he
    · rename_i v h1
      rw [hf.val h1]
      obtain ⟨v', w', e1, e2, e3⟩ := he w hw
      simp only [Sem.run_bind, e1, Result.andThen_ok, Sem.run_pure]
      exact ⟨nextD_spec e2, e3⟩
    · exact he.elim
  | entry it =>
    simp only at he ⊢
    split at he
    · rename_i v h1
      rw [hf.val h1]
      exact upto_gen hw he
    · exact he.elim
  | extract x i =>
    simp only at he ⊢
    split at he
    · rename_i vs hx
      rw [hf.val hx]
      split at he
      · rename_i v hi
        refine upto_v (w' := w) (v := v) ?_ (by rw [hw]; exact he) (Rest.refl w)
        simp only [Instr.extract]
        rw [← Array.getElem?_toList, hi]
        rfl
      · exact he.elim
    · exact he.elim
  | call c =>
    obtain ⟨callee, args, argTypes⟩ := c
    simp only at he ⊢
    split at he
    · rename_i vs hvs
      have hargs : args.map a.eval = vs.toArray := by rw [mapArr, hf.vals hvs]
      unfold resolve
      simp only [hargs]
      have blt : ∀ (b : Builtin) (s : Sem Value) (cs : Array Bool), builtin b argTypes type cs vs.toArray = (do pure (Next.value (← s))) →
          (∃ v w', s.run P w = .ok v w' ∧ k v w'.heap ∧ Rest w w') →
          upto P w k ((do let d ← (Pure.pure { target := .builtin b argTypes type cs, args := vs.toArray } : Sem Deferred); invoke d.target d.args : Sem Next).run P w) := by
        intro b s cs hb ⟨v, w', h1, h2, h3⟩
        simp only [pure_bind, invoke, hb]
        exact upto_v h1 h2 h3
      split at he
      · rename_i f
        simp only [Act.eval, Deferred.ofValue, pure_bind, invoke]
        have e2 : (#[] ++ vs.toArray ++ #[] : Array Value) = vs.toArray := by simp
        rw [e2]
        exact calls_upto hw he
      · rename_i x hnf
        split at he
        · rename_i v hx
          obtain ⟨f, fs, cs, rfl, he⟩ := he
          simp only [hf.val hx, Deferred.ofValue, pure_bind, invoke]
          have e2 : (fs ++ vs.toArray ++ cs : Array Value) = (fs.toList ++ vs ++ cs.toList).toArray := by simp
          rw [e2]
          exact calls_upto hw he
        · exact he.elim
      · split at he
        · rename_i t v ht
          refine blt .len _ _ rfl ?_
          simp only [Builtin.len_, ht, List.getElem?_toArray, List.getElem?_cons_zero]
          split at he
          · rename_i s hu
            rw [sl_length] at he
            exact ⟨_, w, by simp [run_underlying t _ hu]; rfl, by rw [hw]; exact he, Rest.refl w⟩
          · rename_i e p n c hu
            exact ⟨_, w, by simp [run_underlying t _ hu]; rfl, by rw [hw]; exact he, Rest.refl w⟩
          · rename_i ke e hu
            obtain ⟨v', w', h1, h2, h3⟩ := genH hw he
            refine ⟨v', w', ?_, h2, h3⟩
            simpa only [Builtin.len_, ht, List.getElem?_toArray, List.getElem?_cons_zero] using h1
          · rename_i n e hu
            exact ⟨_, w, by simp [run_underlying t _ hu]; rfl, by rw [hw]; exact he, Rest.refl w⟩
          · exact he.elim
        · exact he.elim
      · split at he
        · rename_i t v ht
          refine blt .cap _ _ rfl ?_
          simp only [Builtin.cap_, ht, List.getElem?_toArray, List.getElem?_cons_zero]
          split at he
          · rename_i e p m n hu
            exact ⟨_, w, by simp [run_underlying t _ hu]; rfl, by rw [hw]; exact he, Rest.refl w⟩
          · exact he.elim
        · exact he.elim
      · exact blt .append _ _ rfl (genH hw he)
      · exact blt .copy _ _ rfl (genH hw he)
      · exact blt .delete _ _ rfl (he w hw)
      · exact blt .clear _ _ rfl (he w hw)
      · split at he
        · rename_i ka m kb n
          refine blt .min _ _ rfl ⟨_, w, ?_, by rw [hw]; exact he, Rest.refl w⟩
          simp [Builtin.min_, Builtin.min2]
        · exact blt .min _ _ rfl (genH hw he)
      · split at he
        · rename_i ka m kb n
          refine blt .max _ _ rfl ⟨_, w, ?_, by rw [hw]; exact he, Rest.refl w⟩
          simp [Builtin.max_, Builtin.max2]
        · exact blt .max _ _ rfl (genH hw he)
      · exact he.elim
    · exact he.elim
  | _ => exact he.elim
end
end Go.Lift
