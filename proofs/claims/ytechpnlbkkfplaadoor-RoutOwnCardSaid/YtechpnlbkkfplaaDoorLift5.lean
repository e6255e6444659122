/- The lift, fifth text: regions that draw their order. -/
import Derived.Test.YtechpnlbkkfplaaDoorLift4
namespace Go.Lift

def binPure (P : Program) (t : TypeId) (y : Operand) : Bool :=
  match P.underlying t with
  | some (.int _) => true
  | some .string => true
  | some .bool => true
  | some (.slice _) => match y with
    | .const (.slice none _ _) => true
    | _ => false
  | some (.map _ _) => match y with
    | .const (.map none) => true
    | _ => false
  | some (.pointer _) => match y with
    | .const (.pointer none) => true
    | _ => false
  | _ => false

theorem bin_pure {P : Program} {op : BinOp} {t : TypeId} {x y : Operand} {a b : Value} {k : Value → Prop} {g : Prop} (hp : binPure P t y = true)
    (he : evBin P op t x y a b k g) (hy : ∀ c, y = .const c → b = c) :
    ∃ v, k v ∧ ∀ w : World, ((do eqGuard op t x y a b; Go.binOp op t a b) : Sem Value).run P w = .ok v w := by
  unfold evBin at he
  unfold binPure at hp
  cases hu : P.underlying t with
  | none => simp [hu] at hp
  | some d =>
    simp only [hu] at he hp
    cases d with
    | int kd =>
      simp only at he
      split at he
      · rename_i ka m kb n
        have hg : ∀ w : World, (eqGuard op t x y (.int ka m) (.int kb n)).run P w = .ok () w := by
          intro w
          unfold eqGuard
          split <;> simp
        cases op <;> simp only at he <;> first
          | (obtain ⟨h0, he⟩ := he
             refine ⟨_, he, fun w => ?_⟩
             simp only [Sem.run_bind, hg, Result.andThen_ok, Go.binOp, Op.shift]
             rw [if_neg (by omega)]
             rfl)
          | (split at he
             · rename_i hk
               subst hk
               first
                 | (obtain ⟨h0, he⟩ := he
                    refine ⟨_, he, fun w => ?_⟩
                    simp only [Sem.run_bind, hg, Result.andThen_ok, Go.binOp, ne_eq, not_true_eq_false, if_false, Op.intDiv, h0]
                    rfl)
                 | (refine ⟨_, he, fun w => ?_⟩
                    simp only [Sem.run_bind, hg, Result.andThen_ok]
                    simp [Go.binOp, Op.intArith, Op.intBits, Op.intCmp, bitsI])
             · exact he.elim)
      · exact he.elim
    | string =>
      simp only at he
      split at he
      · rename_i m n
        have hg : ∀ w : World, (eqGuard op t x y (.string m) (.string n)).run P w = .ok () w := by
          intro w
          unfold eqGuard
          split <;> simp
        cases op <;> simp only at he <;> first
          | exact he.elim
          | (obtain ⟨h0, he⟩ := he
             refine ⟨_, he, fun w => ?_⟩
             simp only [Sem.run_bind, hg, Result.andThen_ok, Go.binOp, Op.stringOp]
             rw [if_neg (by rw [sl_length, sl_length] at h0; exact Int.not_lt.2 (show ((m.size + n.size : Nat) : Int) ≤ IntKind.i64.max from h0)), sl_append]
             rfl)
          | (refine ⟨_, he, fun w => ?_⟩
             simp only [Sem.run_bind, hg, Result.andThen_ok]
             simp [Go.binOp, Op.stringOp, ByteArray.toList_eq, sl])
      · exact he.elim
    | bool =>
      simp only at he
      split at he
      · rename_i m n
        have hg : ∀ w : World, (eqGuard op t x y (.bool m) (.bool n)).run P w = .ok () w := by
          intro w
          unfold eqGuard
          split <;> simp
        have hq := fun w : World => eq_bool (w := w) hu m n
        cases op <;> simp only at he <;> first
          | exact he.elim
          | (refine ⟨_, he, fun w => ?_⟩
             simp only [Sem.run_bind, hg, Go.binOp, hq, Result.andThen_ok, Sem.run_pure])
      · exact he.elim
    | slice e =>
      simp only at he
      split at he
      · rename_i l c
        split at he <;> try exact he.elim
        rename_i p l' c'
        obtain rfl := hy _ rfl
        have hg : ∀ w : World, (eqGuard op t x (.const (.slice none l c)) (.slice p l' c') (.slice none l c)).run P w = .ok () w := by
          intro w
          unfold eqGuard
          split <;> simp
        have hq := fun w : World => eq_slice (w := w) hu p l c l' c'
        cases op <;> simp only at he <;> first
          | exact he.elim
          | (refine ⟨_, he, fun w => ?_⟩
             simp only [Sem.run_bind, hg, Go.binOp, hq, Result.andThen_ok, Sem.run_pure])
      · split at hp <;> simp_all
    | map ke e =>
      simp only at he
      split at he
      · split at he <;> try exact he.elim
        rename_i p
        obtain rfl := hy _ rfl
        have hg : ∀ w : World, (eqGuard op t x (.const (.map none)) (.map p) (.map none)).run P w = .ok () w := by
          intro w
          unfold eqGuard
          split <;> simp
        have hq := fun w : World => eq_map (w := w) hu p
        cases op <;> simp only at he <;> first
          | exact he.elim
          | (refine ⟨_, he, fun w => ?_⟩
             simp only [Sem.run_bind, hg, Go.binOp, hq, Result.andThen_ok, Sem.run_pure])
      · split at hp <;> simp_all
    | pointer e =>
      simp only at he
      split at he
      · split at he <;> try exact he.elim
        rename_i p
        obtain rfl := hy _ rfl
        have hg : ∀ w : World, (eqGuard op t x (.const (.pointer none)) (.pointer p) (.pointer none)).run P w = .ok () w := by
          intro w
          unfold eqGuard
          split <;> simp
        have hq := fun w : World => eq_pointer (w := w) hu p
        cases op <;> simp only at he <;> first
          | exact he.elim
          | (refine ⟨_, he, fun w => ?_⟩
             simp only [Sem.run_bind, hg, Go.binOp, hq, Result.andThen_ok, Sem.run_pure])
      · split at hp <;> simp_all
    | _ => simp at hp
def convPure (P : Program) (src dst : TypeId) : Bool :=
  match P.underlying src, P.underlying dst with
  | some (.int _), some (.int _) => true
  | some .string, some .string => true
  | _, _ => false

theorem conv_pure {P : Program} {src dst : TypeId} {v : Value} {k : Value → Prop} {g : Prop} (hp : convPure P src dst = true) (he : evConv P src dst v k g) :
    ∃ u, k u ∧ ∀ w : World, (Go.convert src dst v).run P w = .ok u w := by
  unfold evConv at he
  split at he
  · rename_i h1 h2
    split at he
    · refine ⟨_, he, fun w => ?_⟩
      unfold Go.convert
      simp only [Sem.run_bind, run_underlying _ _ h1, run_underlying _ _ h2, Result.andThen_ok, Conv.intToInt, Sem.run_pure]
    · exact he.elim
  · rename_i h1 h2
    split at he
    · refine ⟨_, he, fun w => ?_⟩
      unfold Go.convert
      simp only [Sem.run_bind, run_underlying _ _ h1, run_underlying _ _ h2, Result.andThen_ok, Sem.run_pure]
    · exact he.elim
  · rename_i h1 h2
    unfold convPure at hp
    split at hp <;> simp_all

def slicePure (P : Program) (t : TypeId) : Bool :=
  match P.underlying t with
  | some .string => true
  | some (.slice _) => true
  | _ => false

theorem slice_pure {P : Program} {t : TypeId} {v : Value} {lo hi : Option Value} {k : Value → Prop} {g : Prop} (hp : slicePure P t = true) (he : evSlice P t v lo hi k g) :
    ∃ u, k u ∧ ∀ w : World, (Instr.sliceAt t v lo hi none).run P w = .ok u w := by
  unfold evSlice at he
  split at he
  · rename_i hu
    split at he <;> try exact he.elim
    rename_i s
    have e0 : s.extract 0 s.size = s := by rw [sl_extract]; apply sl_ext; rw [sl_mkS, ← sl_length]; simp
    have e1 : ∀ l, s.extract l s.size = mkS ((sl s).drop l) := fun l => by rw [sl_extract, ← sl_length, List.take_length]
    have e2 : ∀ h, s.extract 0 h = mkS ((sl s).take h) := fun h => by rw [sl_extract, List.drop_zero]
    split at he
    · refine ⟨_, he, fun w => ?_⟩
      have hr : (Instr.sliceAt t (.string s) none none none).run P w = .ok (.string (s.extract 0 s.size)) w := by
        simp [Instr.sliceAt, run_underlying _ _ hu, Instr.slice, Instr.sliceBounds]
      rw [hr, e0]
    · obtain ⟨hl, he⟩ := he
      rw [sl_length] at hl
      refine ⟨_, he, fun w => ?_⟩
      simp [Instr.sliceAt, run_underlying _ _ hu, Instr.slice, Instr.sliceBounds, run_sliceBound hl, e1]
    · obtain ⟨hl, he⟩ := he
      rw [sl_length] at hl
      refine ⟨_, he, fun w => ?_⟩
      simp [Instr.sliceAt, run_underlying _ _ hu, Instr.slice, Instr.sliceBounds, run_sliceBound hl, e2]
    · obtain ⟨hl, hl', he⟩ := he
      rw [sl_length] at hl
      refine ⟨_, he, fun w => ?_⟩
      simp [Instr.sliceAt, run_underlying _ _ hu, Instr.slice, Instr.sliceBounds, run_sliceBound hl, run_sliceBound hl', sl_extract]
    · exact he.elim
  · rename_i e hu
    split at he <;> try exact he.elim
    rename_i a len cap
    split at he
    · rename_i hk
      split at he
      · refine ⟨_, he, fun w => ?_⟩
        simp [Instr.sliceAt, run_underlying _ _ hu, Instr.slice, Instr.sliceBounds, run_known hk, slA]
      · obtain ⟨hl, he⟩ := he
        refine ⟨_, he, fun w => ?_⟩
        simp [Instr.sliceAt, run_underlying _ _ hu, Instr.slice, Instr.sliceBounds, run_sliceBound hl, run_known hk, slA]
      · obtain ⟨hl, he⟩ := he
        refine ⟨_, he, fun w => ?_⟩
        simp [Instr.sliceAt, run_underlying _ _ hu, Instr.slice, Instr.sliceBounds, run_sliceBound hl, run_known hk, slA]
      · obtain ⟨hl, hl', he⟩ := he
        refine ⟨_, he, fun w => ?_⟩
        simp [Instr.sliceAt, run_underlying _ _ hu, Instr.slice, Instr.sliceBounds, run_sliceBound hl, run_sliceBound hl', run_known hk, slA]
      · exact he.elim
    · exact he.elim
  · unfold slicePure at hp
    split at hp <;> simp_all


def isPure (P : Program) (o : Oper) : Bool :=
  match o.op with
  | .move _ | .assign _ | .build .. | .field .. | .fieldAddr .. | .indexAddr .. | .index .. | .extract .. | .nilCheck _ | .makeFunc .. => true
  | .unOp .not _ _ => true
  | .binOp _ t _ y _ => binPure P t y
  | .convert s d _ => convPure P s d
  | .slice t _ _ _ none => slicePure P t
  | .call { callee := .builtin .len, argTypes, .. } => match argTypes[0]? with
    | some t => match P.underlying t with
      | some .string => true
      | some (.slice _) => true
      | some (.array _ _) => true
      | _ => false
    | none => false
  | .call { callee := .builtin .cap, .. } => true
  | _ => false

theorem run_v {P : Program} {s : Sem Value} {v : Value} {w w' : World} (h : s.run P w = .ok v w') : ((do pure (Next.value (← s)) : Sem Next).run P w) = .ok (.value v) w' := by
  simp only [Sem.run_bind, h, Result.andThen_ok, Sem.run_pure]

theorem evOp_pure {P : Program} {N : Nat} {o : Oper} {ρ : PEnv} {h : Heap} {k : Value → Heap → Prop} (hp : isPure P o = true) (he : evOp P o ρ h k) :
    ∃ v, k v h ∧ ∀ a, Fits N ρ a → ∀ w, (execOp a.eval o).run P w = .ok (.value v) w := by
  obtain ⟨dst, op, type, pos, after, guard⟩ := o
  unfold execOp
  unfold evOp at he
  unfold isPure at hp
  cases op with
  | move x =>
    simp only at he ⊢
    split at he
    · rename_i v hv; exact ⟨v, he, fun a hf w => by rw [hf.val hv]; rfl⟩
    · exact he.elim
  | assign x =>
    simp only at he ⊢
    split at he
    · rename_i v hv; exact ⟨v, he, fun a hf w => by rw [hf.val hv]; rfl⟩
    · exact he.elim
  | build t ps =>
    simp only at he ⊢
    split at he
    · rename_i vs z hk hpp hz
      have hps : ∀ a, Fits N ρ a → (ps.map fun x => (x.1, a.eval x.2)).toList = vs := fun a hf => by simpa using parts_eval hf hpp
      split at he
      · split at he
        · rename_i cs hfs
          exact ⟨_, he, fun a hf w => run_v (run_build hk hz (by rw [hps a hf]; simpa using fillS_fill _ _ _ _ hfs))⟩
        · exact he.elim
      · obtain ⟨cs, hfs, he⟩ := he
        exact ⟨_, he, fun a hf w => run_v (run_build hk hz (by rw [hps a hf]; exact hfs))⟩
    · exact he.elim
  | nilCheck x =>
    simp only at he ⊢
    split at he
    · rename_i p hx
      obtain ⟨q, rfl, he⟩ := he
      exact ⟨_, he, fun a hf w => by rw [hf.val hx]; rfl⟩
    · exact he.elim
  | binOp op t x y t' =>
    simp only at he ⊢ hp
    split at he
    · rename_i va vb hx hy
      obtain ⟨v, hk, hrun⟩ := bin_pure hp he (fun c hc => by subst hc; simpa [PEnv.val, eq_comm] using hy)
      exact ⟨v, hk, fun a hf w => by rw [hf.val hx, hf.val hy]; exact run_v (hrun w)⟩
    · exact he.elim
  | unOp op t x =>
    cases op <;> simp only at hp <;> try cases hp
    simp only at he ⊢
    split at he
    · rename_i b hx
      exact ⟨_, he, fun a hf w => by rw [hf.val hx]; rfl⟩
    · exact he.elim
  | convert src dst x =>
    simp only at he ⊢ hp
    split at he
    · rename_i v hx
      obtain ⟨v, hk, hrun⟩ := conv_pure hp he
      exact ⟨v, hk, fun a hf w => by rw [hf.val hx]; exact run_v (hrun w)⟩
    · exact he.elim
  | makeFunc fn first cap =>
    simp only at he ⊢
    split at he
    · rename_i fs cs h1 h2
      refine ⟨_, he, fun a hf w => ?_⟩
      have e1 : first.map a.eval = fs.toArray := by rw [mapArr, hf.vals h1]
      have e2 : cap.map a.eval = cs.toArray := by rw [mapArr, hf.vals h2]
      rw [e1, e2]
      rfl
    · exact he.elim
  | slice t x lo hi mx =>
    cases mx with
    | some m => simp only at he
    | none =>
      simp only at he ⊢ hp
      split at he
      · rename_i v l u hx hl hu
        obtain ⟨r, hk, hrun⟩ := slice_pure hp he
        refine ⟨r, hk, fun a hf w => ?_⟩
        have opt : ∀ (y : Option Operand) (u : Option Value), ρ.opt y = some u → y.map a.eval = u := by
          intro y u hu
          cases y with
          | none => simpa [PEnv.opt] using hu
          | some z =>
            simp only [PEnv.opt] at hu
            cases hz : ρ.val z with
            | none => simp [hz] at hu
            | some v => simp only [hz, Option.some.injEq] at hu; subst hu; simp [hf.val hz]
        rw [hf.val hx, opt _ _ hl, opt _ _ hu]
        exact run_v (hrun w)
      · exact he.elim
  | fieldAddr s x f =>
    simp only at he ⊢
    split at he
    · rename_i fs hu
      split at he
      · rename_i fd p hfd hx
        split at he
        · rename_i hz
          refine ⟨_, he, fun a hf w => ?_⟩
          rw [hf.val hx]
          have hnz : ¬ P.cellsOf fd.type = 0 := by intro h0; rw [h0] at hz; cases hz
          apply run_v
          simp [Instr.fieldAt, run_underlying s _ hu, hfd, Instr.sureAddr, fieldPlace, run_sizeOf' fd.type hz, hnz]
        · exact he.elim
      · exact he.elim
    · exact he.elim
  | field t x f =>
    simp only at he ⊢
    split at he
    · rename_i fs hu
      split at he
      · rename_i fd cs hfd hx
        split at he
        · rename_i hs
          obtain ⟨u, hc, he⟩ := exq_spec he
          refine ⟨u, he, fun a hf w => ?_⟩
          rw [hf.val hx]
          apply run_v
          simp [Instr.field, run_underlying t _ hu, hfd, asAgg, run_part_scalar hs hc]
        · split at he
          · rename_i fs' hu'
            refine ⟨_, he, fun a hf w => ?_⟩
            rw [hf.val hx]
            apply run_v
            simp [Instr.field, run_underlying t _ hu, hfd, asAgg, run_part_agg hu' rfl]
          · rename_i n e hu'
            refine ⟨_, he, fun a hf w => ?_⟩
            rw [hf.val hx]
            apply run_v
            simp [Instr.field, run_underlying t _ hu, hfd, asAgg, run_part_agg hu' rfl]
          · exact he.elim
      · exact he.elim
    · exact he.elim
  | indexAddr t x ix =>
    simp only at he ⊢
    split at he
    · rename_i e p len c kd i hu hx hi
      split at he
      · rename_i hk
        obtain ⟨q, rfl, h0, h1, he⟩ := he
        refine ⟨_, he, fun a hf w => ?_⟩
        rw [hf.val hx, hf.val hi]
        apply run_v
        simp [Instr.indexAt, asIntOf, run_underlying t _ hu, h0, h1, run_known hk]
      · exact he.elim
    · rename_i n e q kd i hu hx hi
      split at he
      · rename_i hk
        obtain ⟨h0, h1, he⟩ := he
        refine ⟨_, he, fun a hf w => ?_⟩
        rw [hf.val hx, hf.val hi]
        apply run_v
        simp [Instr.indexAt, asIntOf, run_underlying t _ hu, h0, h1, run_known hk, Instr.sureAddr]
      · exact he.elim
    · exact he.elim
  | index t x ix =>
    simp only at he ⊢
    split at he
    · rename_i s kd i hu hx hi
      obtain ⟨h0, h1, he⟩ := he
      refine ⟨_, he, fun a hf w => ?_⟩
      rw [hf.val hx, hf.val hi]
      apply run_v
      rw [sl_length] at h1
      have hlt : i.toNat < s.size := by omega
      have hb : s[i.toNat]? = some s[i.toNat] := by simp [hlt]
      have hs : sbyte s i = s[i.toNat].toNat := by
        unfold sbyte lb sl
        have hlt' : i.toNat < s.data.toList.length := by simpa using hlt
        rw [List.getD_eq_getElem?_getD, List.getElem?_eq_getElem hlt']
        rfl
      simp only [Instr.index, Sem.run_bind, asIntOf, Sem.run_pure, Result.andThen_ok, run_underlying t _ hu, h0, if_true, hb, hs]
    · rename_i n e cs kd i hu hx hi
      split at he
      · rename_i hk
        obtain ⟨h0, h1, he⟩ := he
        split at he
        · rename_i hs
          obtain ⟨u, hc, he⟩ := exq_spec he
          refine ⟨_, he, fun a hf w => ?_⟩
          rw [hf.val hx, hf.val hi]
          apply run_v
          simp [Instr.index, asIntOf, run_underlying t _ hu, h0, h1, run_known hk, run_part_scalar hs hc]
        · split at he
          · rename_i fs' hu'
            refine ⟨_, he, fun a hf w => ?_⟩
            rw [hf.val hx, hf.val hi]
            apply run_v
            simp [Instr.index, asIntOf, run_underlying t _ hu, h0, h1, run_known hk, run_part_agg hu' rfl]
          · rename_i n e hu'
            refine ⟨_, he, fun a hf w => ?_⟩
            rw [hf.val hx, hf.val hi]
            apply run_v
            simp [Instr.index, asIntOf, run_underlying t _ hu, h0, h1, run_known hk, run_part_agg hu' rfl]
          · exact he.elim
      · exact he.elim
    · exact he.elim
  | extract x i =>
    simp only at he ⊢
    split at he
    · rename_i vs hx
      split at he
      · rename_i v hi
        refine ⟨_, he, fun a hf w => ?_⟩
        rw [hf.val hx]
        apply run_v
        simp only [Instr.extract]
        rw [← Array.getElem?_toList, hi]
        rfl
      · exact he.elim
    · exact he.elim
  | call c =>
    obtain ⟨callee, args, argTypes⟩ := c
    cases callee with
    | value f => simp only at hp; cases hp
    | invoke r m => simp only at hp; cases hp
    | builtin b =>
      simp only at he ⊢
      split at he
      · rename_i vs hvs
        have blt : ∀ (b : Builtin) (s : Sem Value) (cs : Array Bool) (v : Value) (w : World), builtin b argTypes type cs vs.toArray = (do pure (Next.value (← s))) → s.run P w = .ok v w →
            ((do let d ← (Pure.pure { target := .builtin b argTypes type cs, args := vs.toArray } : Sem Deferred); invoke d.target d.args : Sem Next).run P w) = .ok (.value v) w := by
          intro b s cs v w hb h1
          simp only [pure_bind, invoke, hb]
          exact run_v h1
        have hargs : ∀ a, Fits N ρ a → args.map a.eval = vs.toArray := fun a hf => by rw [mapArr, hf.vals hvs]
        cases b <;> simp only at hp <;> try cases hp
        · simp only at he
          split at he
          · rename_i t v ht
            split at he
            · rename_i e p m n hu
              refine ⟨_, he, fun a hf w => ?_⟩
              unfold resolve
              simp only [hargs a hf]
              refine blt .cap _ _ _ w rfl ?_
              simp only [Builtin.cap_, ht, List.getElem?_toArray, List.getElem?_cons_zero]
              simp [run_underlying t _ hu, goInt]
            · exact he.elim
          · exact he.elim
        · simp only at he
          split at he
          · rename_i t v ht
            simp only [ht] at hp
            split at he
            · rename_i s hu
              rw [sl_length] at he
              refine ⟨_, he, fun a hf w => ?_⟩
              unfold resolve
              simp only [hargs a hf]
              refine blt .len _ _ _ w rfl ?_
              simp only [Builtin.len_, ht, List.getElem?_toArray, List.getElem?_cons_zero]
              simp [run_underlying t _ hu, goInt]
            · rename_i e p n c hu
              refine ⟨_, he, fun a hf w => ?_⟩
              unfold resolve
              simp only [hargs a hf]
              refine blt .len _ _ _ w rfl ?_
              simp only [Builtin.len_, ht, List.getElem?_toArray, List.getElem?_cons_zero]
              simp [run_underlying t _ hu, goInt]
            · rename_i hu
              simp [hu] at hp
            · rename_i n e hu
              refine ⟨_, he, fun a hf w => ?_⟩
              unfold resolve
              simp only [hargs a hf]
              refine blt .len _ _ _ w rfl ?_
              simp only [Builtin.len_, ht, List.getElem?_toArray, List.getElem?_cons_zero]
              simp [run_underlying t _ hu, goInt]
            · exact he.elim
          · exact he.elim
      · exact he.elim
  | _ => simp only at hp; cases hp

/-- What an operation told by evDo yields, in every world of the class C. -/
def Tells (P : Program) (N : Nat) (ops : Array Oper) (o : Oper) (h : Heap) (C : World → Prop) : Prop :=
  ∀ (i : Nat) (dec : Dec) (ρ : PEnv) (k : Dec → Value → Heap → Prop), evDo P ops i dec o ρ h k → ∃ v, (∃ dec, k dec v h) ∧ ∀ a, Fits N ρ a → ∀ w, C w → (execOp a.eval o).run P w = .ok (.value v) w

def isPure' (P : Program) (o : Oper) : Bool :=
  match o.op with
  | .pick (.tmp _) _ _ => true
  | _ => isPure P o

theorem tells_pure {P : Program} {N : Nat} {ops : Array Oper} {o : Oper} {h : Heap} (hp : isPure' P o = true) : Tells P N ops o h fun _ => True := by
  intro i dec ρ k he
  obtain ⟨dst, op, type, pos, after, guard⟩ := o
  unfold evDo at he
  unfold isPure' at hp
  split at he
  · rename_i t x y hop
    simp only at hop
    subst hop
    have pk : ∀ (b : Bool) (u v : Value), get ρ t = some (.bool b) → (b = true → ρ.val x = some u) → (b = false → ρ.val y = some v) → (∃ dec, k dec (if b then u else v) h) →
        ∃ v, (∃ dec, k dec v h) ∧ ∀ a, Fits N ρ a → ∀ w, True → (execOp a.eval { dst, op := .pick (.tmp t) x y, type, pos, after, guard }).run P w = .ok (.value v) w := by
      intro b u v ht hx hy hk
      refine ⟨_, hk, fun a hf w _ => ?_⟩
      unfold execOp
      simp only
      rw [hf.val (x := .tmp t) (v := .bool b) ht]
      simp only [asBool, pure_bind]
      cases b with
      | true => rw [hf.val (hx rfl)]; rfl
      | false => rw [hf.val (hy rfl)]; rfl
    split at he
    · split at he
      · rename_i ht hb
        split at he
        · rename_i v hv
          exact pk true v v ht (fun _ => hv) (fun e => by cases e) ⟨_, he⟩
        · exact he.elim
      · rename_i ht hb
        split at he
        · rename_i v hv
          exact pk false v v ht (fun e => by cases e) (fun _ => hv) ⟨_, he⟩
        · exact he.elim
      · exact he.elim
    · split at he
      · rename_i b u v ht hx hy
        obtain ⟨h1, h2⟩ := he
        refine pk b u v ht (fun _ => hx) (fun _ => hy) ?_
        cases b with
        | true => exact ⟨_, h1 rfl⟩
        | false => exact ⟨_, h2 rfl⟩
      · exact he.elim
  · rename_i t hop
    simp only at hop
    subst hop
    split at he
    · rename_i v hv
      have hk : ∃ dec, k dec v h := by split at he <;> exact ⟨_, he⟩
      refine ⟨v, hk, fun a hf w _ => ?_⟩
      unfold execOp
      simp only
      rw [hf.val (x := .tmp t) hv]
      rfl
    · exact he.elim
  · rename_i it hop
    simp only at hop
    subst hop
    simp [isPure] at hp
  · rename_i hn hm he3
    have hp' : isPure P { dst, op, type, pos, after, guard } = true := by
      split at hp
      · rename_i t x y he2; exact absurd he2 (hn t x y)
      · exact hp
    obtain ⟨v, h1, h2⟩ := evOp_pure (N := N) hp' he
    exact ⟨v, ⟨_, h1⟩, fun a hf w _ => h2 a hf w⟩

def isLoad (o : Oper) : Bool :=
  match o.op with
  | .load .. => true
  | _ => false

/-- What stood there stands there still. -/
def Pre (h h' : Heap) : Prop := ∀ (b : Nat) (o : Obj), h[b]? = some o → h'[b]? = some o
theorem Pre.refl (h : Heap) : Pre h h := fun _ _ e => e
theorem Pre.trans {a b c : Heap} (h : Pre a b) (k : Pre b c) : Pre a c := fun x o e => k x o (h x o e)
theorem Pre.push (h : Heap) (o : Obj) : Pre h (h.push o) := fun b o' e => by
  have hlt : b < h.size := (Array.getElem?_eq_some_iff.1 e).1
  rw [Array.getElem?_push_lt hlt, ← e, Array.getElem?_eq_getElem hlt]
theorem Pre.cell {h h' : Heap} (k : Pre h h') {a : Addr} {v : Value} (e : hcell h a = some v) : hcell h' a = some v := by
  unfold hcell at e ⊢
  cases hb : h[a.block]? with
  | none => rw [hb] at e; cases e
  | some o => rw [hb] at e; rw [k _ _ hb]; exact e
theorem Pre.row {h h' : Heap} (k : Pre h h') {a : Addr} : ∀ {n i : Nat} {l : List Value}, rdC h a i n = some l → rdC h' a i n = some l
  | 0, _, _, e => e
  | n + 1, i, l, e => by
    unfold rdC at e ⊢
    cases hc : hcell h (a.add i) with
    | none => rw [hc] at e; cases e
    | some v =>
      rw [hc] at e
      rw [k.cell hc]
      simp only at e ⊢
      cases hr : rdC h a (i + 1) n with
      | none => rw [hr] at e; cases e
      | some t => rw [hr] at e; rw [k.row hr]; exact e

theorem tells_load {P : Program} {N : Nat} {ops : Array Oper} {o : Oper} {h : Heap} (hp : isLoad o = true) : Tells P N ops o h fun w => Pre h w.heap := by
  intro i dec ρ k he
  obtain ⟨dst, op, type, pos, after, guard⟩ := o
  unfold isLoad at hp
  cases op <;> simp only at hp <;> try cases hp
  rename_i t x
  simp only [evDo] at he
  unfold evOp at he
  simp only at he
  split at he
  · rename_i p hv
    split at he
    · rename_i hs
      obtain ⟨u, hc, he⟩ := exq_spec he
      refine ⟨u, ⟨_, he⟩, fun a hf w hw => ?_⟩
      unfold execOp
      simp only
      rw [hf.val hv]
      apply run_v
      simp only [Instr.loadAt, Instr.sureAddr, Sem.run_bind, Sem.run_pure, Result.andThen_ok, run_loadVar_scalar hs (hw.cell hc)]
    · split at he
      · rename_i fs hu
        obtain ⟨cs, hc, he⟩ := he
        refine ⟨_, ⟨_, he⟩, fun a hf w hw => ?_⟩
        unfold execOp
        simp only
        rw [hf.val hv]
        apply run_v
        simp only [Instr.loadAt, Instr.sureAddr, Sem.run_bind, Sem.run_pure, Result.andThen_ok, run_loadVar_agg hu rfl (hw.row hc)]
      · rename_i n e hu
        obtain ⟨cs, hc, he⟩ := he
        refine ⟨_, ⟨_, he⟩, fun a hf w hw => ?_⟩
        unfold execOp
        simp only
        rw [hf.val hv]
        apply run_v
        simp only [Instr.loadAt, Instr.sureAddr, Sem.run_bind, Sem.run_pure, Result.andThen_ok, run_loadVar_agg hu rfl (hw.row hc)]
      · exact he.elim
  · exact he.elim

/-- In state a operation o leaves v in its temporary, in every world of the class. -/
def YieldsC (P : Program) (ops : Array Oper) (o : Oper) (v : Value) (a : Act) (C : World → Prop) : Prop :=
  (Region.wanted o (yielded ops a.tmps) = true ∧ ∀ w, C w → (execOp a.eval o).run P w = .ok (.value v) w) ∨ (Region.wanted o (yielded ops a.tmps) = false ∧ v = undef)

theorem evStep_tells {P : Program} {N : Nat} {ops : Array Oper} {i : Nat} {o : Oper} {dec : Dec} {ρ : PEnv} {h : Heap} {k : Dec → PEnv → Heap → Prop} {C : World → Prop}
    {a : Act} (ho : ops[i]? = some o) (ht : Tells P N ops o h C) (hd : dstsOk N ops = true) (hf : Fits N ρ a) (he : evStep P ops i dec ρ h k) :
    ∃ v, YieldsC P ops o v a C ∧ ∃ dec' ρ', k dec' ρ' h ∧ Fits N ρ' (a.put o.dst v) := by
  unfold evStep at he
  simp only [ho] at he
  have go : ∀ dec ρ, Region.wanted o (yielded ops a.tmps) = true → Fits N ρ a → evDo P ops i dec o ρ h (fun dec v h' => k dec (ρ.put o.dst v) h') →
      ∃ v, YieldsC P ops o v a C ∧ ∃ dec' ρ', k dec' ρ' h ∧ Fits N ρ' (a.put o.dst v) := by
    intro dec ρ hw hf he
    obtain ⟨v, ⟨dec, h1⟩, h2⟩ := ht i dec ρ _ he
    exact ⟨v, .inl ⟨hw, h2 a hf⟩, dec, _, h1, hf.put o.dst v (fun d hd' => dstsOk_spec hd ho d hd')⟩
  have sk : ∀ dec ρ, Region.wanted o (yielded ops a.tmps) = false → Fits N ρ a → k dec (ρ.put o.dst undef) h →
      ∃ v, YieldsC P ops o v a C ∧ ∃ dec' ρ', k dec' ρ' h ∧ Fits N ρ' (a.put o.dst v) := by
    intro dec ρ hw hf he
    exact ⟨undef, .inr ⟨hw, rfl⟩, dec, _, he, hf.put o.dst undef (fun d hd' => dstsOk_spec hd ho d hd')⟩
  split at he
  · rename_i hg
    exact go dec ρ (by simp [Region.wanted, hg]) hf he
  · rename_i j want hg
    split at he
    · exact he.elim
    · rename_i g hgt
      have hy : ∀ v, get ρ g = some v → yielded ops a.tmps j = (match v with | .bool b => some b | _ => none) := by
        intro v hv
        unfold yielded
        unfold gtmp at hgt
        cases hj : ops[j]? with
        | none => simp [hj] at hgt
        | some oj =>
          simp only [hj] at hgt
          simp [hgt, hf.tmp g v hv]
          cases v <;> rfl
      have hw : ∀ v, get ρ g = some v → Region.wanted o (yielded ops a.tmps) = ((match v with | .bool b => some b | _ => none) == some want) := by
        intro v hv
        simp only [Region.wanted, hg, hy v hv]
      split at he
      · split at he
        · rename_i hv _
          exact go dec ρ (by rw [hw _ hv]; rfl) hf he
        · rename_i hv _
          exact go dec ρ (by rw [hw _ hv]; rfl) hf he
        · rename_i hv _
          exact sk _ ρ (by rw [hw _ hv]; rfl) hf he
        · rename_i hv _
          exact sk _ ρ (by rw [hw _ hv]; rfl) hf he
        · exact he.elim
      · split at he
        · rename_i hv
          exact sk _ ρ (by rw [hw _ hv]; rfl) hf he
        · exact he.elim
      · split at he
        · rename_i b hv
          cases b with
          | true => exact go _ _ (by rw [hw _ hv]; rfl) (hf.again hv) (he.1 rfl)
          | false => exact sk _ _ (by rw [hw _ hv]; rfl) (hf.again hv) (he.2 rfl)
        · rename_i b hv
          cases b with
          | true => exact sk _ _ (by rw [hw _ hv]; rfl) (hf.again hv) (he.2 rfl)
          | false => exact go _ _ (by rw [hw _ hv]; rfl) (hf.again hv) (he.1 rfl)
        · exact he.elim

/-! ### A read goes ahead of what leaves the heap alone -/

def isQuiet (o : Oper) : Bool :=
  match o.op with
  | .move _ | .assign _ | .pick .. | .load .. | .fieldAddr .. | .indexAddr .. | .field .. | .index .. | .extract .. => true
  | .call { callee := .builtin .len, .. } => true
  | _ => false

def constInt : Operand → Bool
  | .const (.int _ _) => true
  | _ => false
def safeBin : BinOp → Bool
  | .and | .shr | .add => true
  | _ => false
/-- Operations that add to the heap alone, that read it to make a text, or that compute with numbers. -/
def isGrow (P : Program) (o : Oper) : Bool :=
  match o.op with
  | .alloc _ | .buildSlice .. => true
  | .binOp op _ x y _ => safeBin op && (constInt x || constInt y)
  | .convert src dst _ => (match P.underlying src, P.underlying dst with
    | some (.slice e), some .string => (match P.underlying e with | some (.int .u8) => true | _ => false)
    | some (.int _), some (.int _) => true
    | _, _ => false)
  | _ => false
def isSafe (P : Program) (o : Oper) : Bool := isQuiet o || isGrow P o

/-- A term of the model's that writes nothing. -/
def still {α : Type} : Sem α → Prop
  | .pure _ => True
  | .load _ _ k => ∀ v, still (k v)
  | .store .. => False
  | .new .. => False
  | .shape _ k => ∀ s, still (k s)
  | .freeze .. => False
  | .frozen _ k => ∀ b, still (k b)
  | .getObj _ k => ∀ o, still (k o)
  | .setObj .. => False
  | .choose _ k => ∀ n, still (k n)
  | .sys .. => False
  | .program k => ∀ p, still (k p)
  | .mark _ k => still k
  | .halt _ => True

theorem still_run {α : Type} {P : Program} (s : Sem α) (hs : still s) : ∀ (w : World) (a : α) (w' : World), s.run P w = .ok a w' → w'.heap = w.heap := by
  induction s with
  | pure a => intro w b w' h; cases h; rfl
  | load m a k ih =>
    intro w b w' h
    simp only [Sem.run] at h
    split at h
    · exact ih _ (hs _) w b w' h
    · split at h
      · exact ih _ (hs _) w b w' h
      · cases h
  | store m a v k ih => exact hs.elim
  | new o k ih => exact hs.elim
  | shape r k ih => intro w b w' h; exact ih _ (hs _) w b w' h
  | freeze a n k ih => exact hs.elim
  | frozen a k ih => intro w b w' h; exact ih _ (hs _) w b w' h
  | getObj r k ih =>
    intro w b w' h
    simp only [Sem.run] at h
    split at h
    · cases h
    · exact ih _ (hs _) w b w' h
    · cases h
  | setObj r o k ih => exact hs.elim
  | choose q k ih =>
    intro w b w' h
    simp only [Sem.run] at h
    split at h
    · exact ih _ (hs _) w b w' h
    · exact ih _ (hs _) { w with drawn := w.drawn + 1 } b w' h
  | sys c k ih => exact hs.elim
  | program k ih => intro w b w' h; exact ih _ (hs _) w b w' h
  | mark m k ih => intro w b w' h; exact ih hs w b w' h
  | halt x => intro w b w' h; cases h

theorem still_bind {α β : Type} (s : Sem α) (f : α → Sem β) (hs : still s) (hf : ∀ a, still (f a)) : still (s >>= f) := by
  show still (s.bind f)
  induction s with
  | pure a => exact hf a
  | load m a k ih => exact fun v => ih v (hs v)
  | store m a v k ih => exact hs.elim
  | new o k ih => exact hs.elim
  | shape r k ih => exact fun v => ih v (hs v)
  | freeze a n k ih => exact hs.elim
  | frozen a k ih => exact fun v => ih v (hs v)
  | getObj r k ih => exact fun v => ih v (hs v)
  | setObj r o k ih => exact hs.elim
  | choose q k ih => exact fun v => ih v (hs v)
  | sys c k ih => exact hs.elim
  | program k ih => exact fun v => ih v (hs v)
  | mark m k ih => exact ih hs
  | halt x => trivial

section
theorem still_pure {α : Type} (a : α) : still (pure a : Sem α) := trivial
theorem still_stuck {α : Type} (s : String) : still (stuck s : Sem α) := trivial
theorem still_unsupported {α : Type} (u : Unsupported) : still (unsupported u : Sem α) := trivial
theorem still_goPanic {α : Type} (v : Value) : still (goPanic v : Sem α) := trivial
theorem still_program : still program := fun _ => trivial
theorem still_load (a : Addr) : still (load a) := fun _ => trivial
theorem still_shape (r : Nat) : still (shape r) := fun _ => trivial
theorem still_getObj (r : Nat) : still (getObj r) := fun _ => trivial
theorem still_choose (q : Question) : still (choose q) := fun _ => trivial
theorem still_map {α β : Type} (s : Sem α) (f : α → β) (hs : still s) : still (f <$> s) := still_bind s _ hs fun _ => trivial
theorem still_typeInfo (t : TypeId) : still (typeInfo t) := still_bind _ _ still_program fun p => by split <;> trivial
theorem still_underlying (t : TypeId) : still (underlying t) := still_bind _ _ still_program fun p => by split <;> trivial
theorem still_sizeOf (t : TypeId) : still (sizeOf t) := still_bind _ _ (still_typeInfo t) fun _ => trivial
theorem still_isAgg (t : TypeId) : still (isAgg t) := still_bind _ _ (still_underlying t) fun d => by split <;> trivial
theorem still_loadCellsFrom (a : Addr) : ∀ (n i : Nat) (acc : Array Value), still (loadCellsFrom a i n acc)
  | 0, _, _ => trivial
  | n + 1, i, _ => still_bind _ _ (still_load _) fun _ => still_loadCellsFrom a n (i + 1) _
theorem still_loadVar (t : TypeId) (a : Addr) : still (loadVar t a) := by
  refine still_bind _ _ (still_isAgg t) fun b => ?_
  split
  · exact still_bind _ _ (still_sizeOf t) fun n => still_bind _ _ (still_loadCellsFrom a n 0 _) fun _ => trivial
  · exact still_load a
theorem still_sureAddr (v : Value) : still (Instr.sureAddr v) := by unfold Instr.sureAddr; split <;> trivial
theorem still_viewAt (r : Nat) : still (viewAt r) := by
  refine still_bind _ _ (still_shape r) fun s => ?_
  split
  · trivial
  · refine still_bind _ _ (still_getObj r) fun o => ?_
    split <;> trivial
theorem still_noView (a : Addr) : still (noView a) := still_bind _ _ (still_viewAt _) fun v => by split <;> trivial
theorem still_byteOf (a : Addr) : still (byteOf a) := by
  unfold byteOf
  split
  · trivial
  · refine still_bind _ _ still_program fun p => still_bind _ _ (still_noView a) fun _ => still_bind _ _ (still_shape _) fun s => ?_
    split
    · dsimp only
      split
      · trivial
      · split <;> trivial
    · trivial
theorem still_fieldPlace (a : Addr) (f : Field) : still (fieldPlace a f) := by
  refine still_bind _ _ (still_sizeOf _) fun n => ?_
  split
  · exact still_bind _ _ (still_byteOf _) fun b => still_bind _ _ (still_byteOf _) fun c => trivial
  · trivial
theorem still_asIntOf (v : Value) : still (asIntOf v) := by unfold asIntOf; split <;> trivial
theorem still_asBool (v : Value) : still (asBool v) := by unfold asBool; split <;> trivial
theorem still_asAgg (v : Value) : still (asAgg v) := by unfold asAgg; split <;> trivial
theorem still_bounds {α : Type} (k : IntKind) (x y : Int) (c : BoundsCode) : still (boundsPanic k x y c : Sem α) := by
  unfold boundsPanic
  dsimp only
  split
  · exact still_bind _ _ (still_map _ _ (still_choose _)) fun _ => still_bind _ _ still_program fun _ => trivial
  · exact still_bind _ _ trivial fun _ => still_bind _ _ still_program fun _ => trivial
theorem still_nilDeref {α : Type} : still (runtimePanic .nilDeref : Sem α) := still_bind _ _ still_program fun _ => trivial
theorem still_part (t : TypeId) (cs : Array Value) (off : Nat) : still (part t cs off) := by
  refine still_bind _ _ (still_isAgg t) fun b => ?_
  split
  · exact still_bind _ _ (still_sizeOf t) fun n => trivial
  · split <;> trivial

theorem still_forIn {α β : Type} (f : α → β → Sem (ForInStep β)) (hf : ∀ a b, still (f a b)) : ∀ (l : List α) (b : β), still (forIn l b f)
  | [], b => by rw [List.forIn_nil]; trivial
  | a :: l, b => by
    rw [List.forIn_cons]
    refine still_bind _ _ (hf a b) fun r => ?_
    cases r with
    | done b => trivial
    | yield b => exact still_forIn f hf l b
theorem still_bytesToString (x : Value) : still (Conv.bytesToString x) := by
  unfold Conv.bytesToString
  split
  · trivial
  · refine still_bind _ _ (still_loadCellsFrom _ _ _ _) fun cs => ?_
    refine still_bind _ _ ?_ fun s => trivial
    rw [← Array.forIn_toList]
    refine still_forIn _ (fun a b => ?_) _ _
    split <;> trivial
  · trivial
/-- A term that adds to the heap at most. -/
def grows {α : Type} : Sem α → Prop
  | .pure _ => True
  | .load _ _ k => ∀ v, grows (k v)
  | .store .. => False
  | .new _ k => ∀ r, grows (k r)
  | .shape _ k => ∀ s, grows (k s)
  | .freeze .. => False
  | .frozen _ k => ∀ b, grows (k b)
  | .getObj _ k => ∀ o, grows (k o)
  | .setObj .. => False
  | .choose _ k => ∀ n, grows (k n)
  | .sys .. => False
  | .program k => ∀ p, grows (k p)
  | .mark _ k => grows k
  | .halt _ => True
theorem grows_run {α : Type} {P : Program} (s : Sem α) (hs : grows s) : ∀ (w : World) (a : α) (w' : World), s.run P w = .ok a w' → Pre w.heap w'.heap := by
  induction s with
  | pure a => intro w b w' h; cases h; exact Pre.refl _
  | load m a k ih =>
    intro w b w' h
    simp only [Sem.run] at h
    split at h
    · exact ih _ (hs _) w b w' h
    · split at h
      · exact ih _ (hs _) w b w' h
      · cases h
  | store m a v k ih => exact hs.elim
  | new o k ih => intro w b w' h; exact (Pre.push w.heap o).trans (ih _ (hs _) { w with heap := w.heap.push o } b w' h)
  | shape r k ih => intro w b w' h; exact ih _ (hs _) w b w' h
  | freeze a n k ih => exact hs.elim
  | frozen a k ih => intro w b w' h; exact ih _ (hs _) w b w' h
  | getObj r k ih =>
    intro w b w' h
    simp only [Sem.run] at h
    split at h
    · cases h
    · exact ih _ (hs _) w b w' h
    · cases h
  | setObj r o k ih => exact hs.elim
  | choose q k ih =>
    intro w b w' h
    simp only [Sem.run] at h
    split at h
    · exact ih _ (hs _) w b w' h
    · exact ih _ (hs _) { w with drawn := w.drawn + 1 } b w' h
  | sys c k ih => exact hs.elim
  | program k ih => intro w b w' h; exact ih _ (hs _) w b w' h
  | mark m k ih => intro w b w' h; exact ih hs w b w' h
  | halt x => intro w b w' h; cases h
theorem grows_still {α : Type} (s : Sem α) (hs : still s) : grows s := by
  induction s with
  | pure a => trivial
  | load m a k ih => exact fun v => ih v (hs v)
  | store m a v k ih => exact hs.elim
  | new o k ih => exact hs.elim
  | shape r k ih => exact fun v => ih v (hs v)
  | freeze a n k ih => exact hs.elim
  | frozen a k ih => exact fun v => ih v (hs v)
  | getObj r k ih => exact fun v => ih v (hs v)
  | setObj r o k ih => exact hs.elim
  | choose q k ih => exact fun v => ih v (hs v)
  | sys c k ih => exact hs.elim
  | program k ih => exact fun v => ih v (hs v)
  | mark m k ih => exact ih hs
  | halt x => trivial
theorem grows_bind {α β : Type} (s : Sem α) (f : α → Sem β) (hs : grows s) (hf : ∀ a, grows (f a)) : grows (s >>= f) := by
  show grows (s.bind f)
  induction s with
  | pure a => exact hf a
  | load m a k ih => exact fun v => ih v (hs v)
  | store m a v k ih => exact hs.elim
  | new o k ih => exact fun v => ih v (hs v)
  | shape r k ih => exact fun v => ih v (hs v)
  | freeze a n k ih => exact hs.elim
  | frozen a k ih => exact fun v => ih v (hs v)
  | getObj r k ih => exact fun v => ih v (hs v)
  | setObj r o k ih => exact hs.elim
  | choose q k ih => exact fun v => ih v (hs v)
  | sys c k ih => exact hs.elim
  | program k ih => exact fun v => ih v (hs v)
  | mark m k ih => exact ih hs
  | halt x => trivial
theorem still_zeroValue (t : TypeId) : still (zeroValue t) := by
  unfold zeroValue
  refine still_bind _ _ (still_typeInfo t) fun i => ?_
  split <;> trivial
theorem grows_newRow (e : TypeId) (cs : Array Value) : grows (newRow e cs) := fun _ => trivial
theorem grows_alloc (e : TypeId) : grows (Instr.alloc e true (.tuple #[])) := by
  unfold Instr.alloc
  refine grows_bind _ _ (grows_still _ (still_zeroValue e)) fun z => ?_
  exact grows_bind _ _ (grows_newRow _ _) fun a => trivial
theorem grows_buildSlice (t : TypeId) (n : Nat) (ps : Array (Nat × Value)) : grows (Instr.buildSlice t n ps) := by
  unfold Instr.buildSlice
  refine grows_bind _ _ (grows_still _ (still_underlying t)) fun d => ?_
  split
  · refine grows_bind _ _ (grows_still _ (still_sizeOf _)) fun sz => ?_
    dsimp only
    split
    · trivial
    · split
      · refine grows_bind _ _ trivial fun z => ?_
        split
        · exact grows_bind _ _ (grows_newRow _ _) fun a => trivial
        · trivial
      · refine grows_bind (zeroValue _) _ (grows_still (zeroValue _) (still_zeroValue _)) fun z => grows_bind _ _ trivial fun z => ?_
        split
        · exact grows_bind _ _ (grows_newRow _ _) fun a => trivial
        · trivial
  · trivial
theorem still_error {α : Type} (m : String) : still (runtimePanic (.error m) : Sem α) := still_bind _ _ still_program fun _ => trivial
theorem still_numberAt (r : Nat) : still (numberAt r) := by
  refine still_bind _ _ (still_shape r) fun s => ?_
  split
  · trivial
  · refine still_bind _ _ (still_getObj r) fun o => ?_
    split <;> trivial
theorem still_behind (a : Addr) : still (behindNumber a) := still_bind _ _ (still_numberAt _) fun _ => trivial
theorem still_addrMod (k : IntKind) (a : Addr) (n : Int) : still (Op.addrMod k a n) := by
  refine still_bind _ _ (still_shape _) fun s => ?_
  split
  · refine still_bind _ _ (still_typeInfo _) fun i => ?_
    dsimp only
    split
    · trivial
    · exact still_bind _ _ (still_byteOf _) fun b => trivial
  · trivial
theorem still_unsafeAdd (t : TypeId) (x y : Value) : still (Builtin.unsafeAdd_ #[] t #[x, y]) := by
  unfold Builtin.unsafeAdd_
  cases x
  case pointer ptr =>
    dsimp only
    refine still_bind _ _ (still_bind _ _ (still_asIntOf _) fun _ => trivial) fun n => ?_
    have tail : still (match ptr with
        | some a => do
          let q ← shape a.block
          match q with
          | some (e, cells) => do
            let p ← program
            match cellAtBytes p p.depth e (cells / p.cellsOf e) a.off n with
            | some off => pure (Value.pointer (some { a with off }))
            | none => unsupported (.unsafePointer "Add")
          | _ => unsupported (.unsafePointer "Add")
        | _ => unsupported (.unsafePointer "Add")) := by
      split
      · refine still_bind _ _ (still_shape _) fun s => ?_
        split
        · refine still_bind _ _ still_program fun p => ?_
          split <;> trivial
        · trivial
      · trivial
    split
    · cases ptr with
      | none => trivial
      | some a =>
        dsimp only
        refine still_bind _ _ (still_viewAt _) fun v => ?_
        split <;> trivial
    · split
      · trivial
      · exact tail
  all_goals trivial
theorem grows_movedNumber (t : TypeId) (x y : Value) : grows (movedNumber t x y) := by
  have h1 : ∀ n : Addr, grows (do
      let (a, lost) ← behindNumber n
      match ← Builtin.unsafeAdd_ #[] t #[.pointer (some a), y] with
      | .pointer (some b) => asNumber b lost
      | v => pure v) := by
    intro n
    refine grows_bind _ _ (grows_still _ (still_behind _)) fun q => ?_
    refine grows_bind _ _ (grows_still _ (still_unsafeAdd _ _ _)) fun v => ?_
    split
    · exact fun _ => trivial
    · trivial
  have h2 : grows (match x with
      | .pointer (some n) => (do
        let (a, lost) ← behindNumber n
        match ← Builtin.unsafeAdd_ #[] t #[.pointer (some a), y] with
        | .pointer (some b) => asNumber b lost
        | v => pure v)
      | _ => Builtin.unsafeAdd_ #[] t #[x, y]) := by
    split
    · exact h1 _
    · exact grows_still _ (still_unsafeAdd _ _ _)
  unfold movedNumber
  refine grows_bind _ _ (grows_still _ (still_underlying t)) fun d => ?_
  cases d <;> first | exact h2 | trivial
theorem still_movedPointer (t : TypeId) (x y : Value) : still (movedPointer t x y) := by
  unfold movedPointer
  dsimp only
  split
  · refine still_bind _ _ (still_numberAt _) fun n => ?_
    split
    · trivial
    · exact still_unsafeAdd _ _ _
  · exact still_unsafeAdd _ _ _
theorem grows_binL {op : BinOp} (ho : safeBin op = true) (t : TypeId) (k : IntKind) (n : Int) (y : Value) : grows (binOp op t (.int k n) y) := by
  cases op <;> simp only [safeBin] at ho <;> try cases ho
  case add =>
    cases y with
    | int k' n' => unfold binOp; dsimp only; split <;> trivial
    | pointer p => exact grows_movedNumber _ _ _
    | _ => trivial
  case and =>
    cases y with
    | int k' n' => unfold binOp; dsimp only; split <;> trivial
    | pointer p =>
      cases p with
      | none => trivial
      | some a => exact grows_bind (behindNumber a) _ (grows_still (behindNumber a) (still_behind a)) fun q => grows_still _ (still_addrMod k q.1 (n + 1))
    | _ => trivial
  case shr =>
    cases y with
    | int k' n' =>
      unfold binOp; dsimp only; unfold Op.shift
      split
      · exact grows_still _ (still_error _)
      · trivial
    | pointer p => cases p <;> trivial
    | _ => trivial
theorem grows_binR {op : BinOp} (ho : safeBin op = true) (t : TypeId) (k : IntKind) (n : Int) (x : Value) : grows (binOp op t x (.int k n)) := by
  cases op <;> simp only [safeBin] at ho <;> try cases ho
  case add =>
    cases x with
    | int k' n' => exact grows_binL rfl t k' n' _
    | pointer p =>
      refine grows_bind (underlying t) _ (grows_still (underlying t) (still_underlying t)) fun d => ?_
      split
      · exact grows_still _ (still_movedPointer _ _ _)
      · exact grows_movedNumber _ _ _
    | _ => trivial
  case and =>
    cases x with
    | int k' n' => exact grows_binL rfl t k' n' _
    | pointer p =>
      cases p with
      | none => trivial
      | some a => exact grows_bind (behindNumber a) _ (grows_still (behindNumber a) (still_behind a)) fun q => grows_still _ (still_addrMod k q.1 (n + 1))
    | _ => trivial
  case shr =>
    cases x with
    | int k' n' => exact grows_binL rfl t k' n' _
    | pointer p => cases p <;> trivial
    | _ => trivial
theorem grows_bin {op : BinOp} (ho : safeBin op = true) {x y : Operand} (hc : (constInt x || constInt y) = true) {ρ : Operand → Value} (hρ : ∀ c, ρ (.const c) = c) (t : TypeId) :
    grows (do eqGuard op t x y (ρ x) (ρ y); binOp op t (ρ x) (ρ y)) := by
  refine grows_bind _ _ ?_ fun _ => ?_
  · cases op <;> simp only [safeBin] at ho <;> try cases ho
    all_goals exact trivial
  · rw [Bool.or_eq_true] at hc
    rcases hc with hc | hc
    · unfold constInt at hc
      split at hc
      · rw [hρ]; exact grows_binL ho _ _ _ _
      · cases hc
    · unfold constInt at hc
      split at hc
      · rw [hρ]; exact grows_binR ho _ _ _ _
      · cases hc
theorem convert_int {P : Program} {src dst : TypeId} {a b : IntKind} (hs : P.underlying src = some (.int a)) (hd : P.underlying dst = some (.int b)) {v u : Value} {w w' : World} (h : (convert src dst v).run P w = .ok u w') : w'.heap = w.heap := by
  unfold convert at h
  simp only [Sem.run_bind, run_underlying src _ hs, run_underlying dst _ hd, Result.andThen_ok] at h
  cases v
  case int k n => exact still_run (Conv.intToInt b n) trivial w u w' h
  case float k n =>
    refine still_run (Conv.floatToInt k n b) ?_ w u w' h
    unfold Conv.floatToInt
    dsimp only
    split
    · split
      · trivial
      · exact fun _ => trivial
    · exact fun _ => trivial
  case pointer p => cases p <;> cases h
  all_goals cases h
theorem convert_bytes {P : Program} {src dst e : TypeId} (hs : P.underlying src = some (.slice e)) (hd : P.underlying dst = some .string) (he : P.underlying e = some (.int .u8)) {v u : Value} {w w' : World} (h : (convert src dst v).run P w = .ok u w') : w'.heap = w.heap := by
  unfold convert at h
  simp only [Sem.run_bind, run_underlying src _ hs, run_underlying dst _ hd, Result.andThen_ok] at h
  cases v
  case int k n => exact still_run (Conv.intToString n) trivial w u w' h
  case string s => cases h; rfl
  all_goals
    simp only [Sem.run_bind, run_underlying e _ he, Result.andThen_ok] at h
    exact still_run _ (still_bytesToString _) w u w' h
theorem quiet_still {o : Oper} (hq : isQuiet o = true) (ρ : Operand → Value) : still (execOp ρ o) := by
  obtain ⟨dst, op, type, pos, after, guard⟩ := o
  unfold isQuiet at hq
  unfold execOp
  cases op <;> simp only at hq ⊢ <;> try cases hq
  case move x => trivial
  case assign x => trivial
  case pick c x y => exact still_bind _ _ (still_asBool _) fun b => trivial
  case load t x => exact still_bind _ _ (still_bind _ _ (still_sureAddr _) fun a => still_loadVar t a) fun v => trivial
  case fieldAddr s x f =>
    refine still_bind _ _ (still_bind _ _ (still_underlying _) fun d => ?_) fun v => trivial
    split
    · split
      · exact still_bind _ _ (still_sureAddr _) fun a => still_bind _ _ (still_fieldPlace _ _) fun p => trivial
      · trivial
    · trivial
  case field t x f =>
    refine still_bind _ _ (still_bind _ _ (still_underlying _) fun d => ?_) fun v => trivial
    split
    · split
      · exact still_bind _ _ (still_asAgg _) fun a => still_part _ _ _
      · trivial
    · trivial
  case indexAddr t x i =>
    refine still_bind _ _ (still_bind _ _ (still_asIntOf _) fun ki => still_bind _ _ (still_underlying _) fun d => ?_) fun v => trivial
    have tail : ∀ (base : Option Addr) (len : Nat) (elem : TypeId) (m : Sem Value),
        m = (do
          let d ← underlying t
          let tiny : Bool := decide (len ≤ 1) && (match d with | TypeDesc.array .. => true | _ => false)
          match base with
          | some a =>
            if 0 ≤ ki.snd ∧ ki.snd < ↑len then do
              let n ← sizeOf elem
              pure (Value.pointer (some (a.add (ki.snd.toNat * n))))
            else if tiny = true then
              unsupported (Unsupported.noEntry "op/indexAddr.an index out of range at an array of length 0 or 1 (ledger 616)")
            else boundsPanic ki.fst ki.snd (↑len) BoundsCode.index
          | none => boundsPanic ki.fst ki.snd 0 BoundsCode.index) → still m := by
      intro base len elem m hm
      rw [hm]
      refine still_bind _ _ (still_underlying _) fun d' => ?_
      dsimp only
      generalize (decide (len ≤ 1) && _) = tiny
      cases base with
      | some a =>
        dsimp only
        split
        · exact still_bind _ _ (still_sizeOf _) fun n => trivial
        · split
          · trivial
          · exact still_bounds _ _ _ _
      | none => exact still_bounds _ _ _ _
    dsimp only
    split
    · exact still_bind _ _ (still_sureAddr _) fun a => still_bind _ _ trivial fun q => tail q.1 q.2.1 q.2.2 _ rfl
    · exact still_bind _ _ trivial fun q => tail q.1 q.2.1 q.2.2 _ rfl
    · exact still_bind _ _ trivial fun q => tail q.1 q.2.1 q.2.2 _ rfl
  case index t x i =>
    refine still_bind _ _ (still_bind _ _ (still_asIntOf _) fun ki => still_bind _ _ (still_underlying _) fun d => ?_) fun v => trivial
    split
    · split
      · exact still_bind _ _ (still_sizeOf _) fun n => still_part _ _ _
      · exact still_bounds _ _ _ _
    · split
      · trivial
      · exact still_bounds _ _ _ _
    · trivial
  case extract x i =>
    refine still_bind _ _ ?_ fun v => trivial
    unfold Instr.extract
    split
    · split <;> trivial
    · trivial
  case call c =>
    obtain ⟨callee, args, argTypes⟩ := c
    cases callee with
    | value f => simp only at hq; cases hq
    | invoke r m => simp only at hq; cases hq
    | builtin b =>
      cases b <;> simp only at hq <;> try cases hq
      unfold resolve
      simp only [pure_bind, invoke, builtin]
      refine still_bind _ _ ?_ fun v => trivial
      unfold Builtin.len_
      split
      · refine still_bind _ _ (still_underlying _) fun d => ?_
        split
        all_goals first
          | trivial
          | (refine still_bind _ _ (still_underlying _) fun d => ?_; split <;> trivial)
          | (refine still_bind _ _ (still_getObj _) fun d => ?_; split <;> trivial)
      · trivial
end

section
variable {P : Program} {ops : Array Oper} {Q : Exit → Act → World → Prop} {md : Region.Mode}

theorem YieldsC.of_same {o : Oper} {v : Value} {a a' : Act} {C : World → Prop} (hy : YieldsC P ops o v a C) (he : execOp a'.eval o = execOp a.eval o)
    (hw : Region.wanted o (yielded ops a'.tmps) = Region.wanted o (yielded ops a.tmps)) : YieldsC P ops o v a' C := by
  unfold YieldsC at *
  rw [he, hw]
  exact hy

theorem YieldsC.wpOp {i : Nat} {o : Oper} {v : Value} {a : Act} {C : World → Prop} (hi : ops[i]? = some o) (hy : YieldsC P ops o v a C)
    {K : Act → World → Prop} {w : World} (hc : C w) (h : K (a.put o.dst v) w) : wpOp P ops Q i K a w := by
  unfold Go.wpOp
  simp only [hi]
  rcases hy with ⟨hw, hv⟩ | ⟨hw, rfl⟩
  · simp only [hw, if_true, Oper.wp, hv w hc, Oper.upon]; exact .inl h
  · simp only [hw, Bool.false_eq_true, if_false]; exact h

theorem quiet_value {o : Oper} (hq : isQuiet o = true) {ρ : Operand → Value} {w w' : World} {n : Next} (h : (execOp ρ o).run P w = .ok n w') : ∃ u, n = .value u := by
  obtain ⟨dst, op, type, pos, after, guard⟩ := o
  unfold isQuiet at hq
  unfold execOp at h
  have key : ∀ (s : Sem Value), (do pure (Next.value (← s)) : Sem Next).run P w = .ok n w' → ∃ u, n = .value u := by
    intro s hs
    simp only [Sem.run_bind] at hs
    cases hr : s.run P w with
    | halt x w'' => simp [hr] at hs
    | ok u w'' => simp only [hr, Result.andThen_ok, Sem.run_pure, Result.ok.injEq] at hs; exact ⟨u, hs.1.symm⟩
  cases op <;> simp only at hq h <;> try cases hq
  case move x => cases h; exact ⟨_, rfl⟩
  case assign x => cases h; exact ⟨_, rfl⟩
  case pick c x y =>
    simp only [Sem.run_bind] at h
    cases hr : (asBool (ρ c)).run P w with
    | halt x w'' => simp [hr] at h
    | ok u w'' => simp only [hr, Result.andThen_ok, Sem.run_pure, Result.ok.injEq] at h; exact ⟨_, h.1.symm⟩
  case call c =>
    obtain ⟨callee, args, argTypes⟩ := c
    cases callee with
    | value f => simp only at hq; cases hq
    | invoke r m => simp only at hq; cases hq
    | builtin b =>
      cases b <;> simp only at hq <;> try cases hq
      unfold resolve at h
      simp only [pure_bind, invoke, builtin] at h
      exact key _ h
  all_goals exact key _ h

theorem safe_value {o : Oper} (hq : isSafe P o = true) {ρ : Operand → Value} (hρ : ∀ c, ρ (.const c) = c) {w w' : World} {n : Next} (h : (execOp ρ o).run P w = .ok n w') : Pre w.heap w'.heap ∧ ∃ u, n = .value u := by
  unfold isSafe at hq
  rw [Bool.or_eq_true] at hq
  rcases hq with hq | hq
  · exact ⟨by rw [still_run _ (quiet_still hq ρ) w _ w' h]; exact Pre.refl _, quiet_value hq h⟩
  · obtain ⟨dst, op, type, pos, after, guard⟩ := o
    unfold isGrow at hq
    unfold execOp at h
    have key : ∀ (s : Sem Value), (∀ u w', s.run P w = .ok u w' → Pre w.heap w'.heap) → (do pure (Next.value (← s)) : Sem Next).run P w = .ok n w' → Pre w.heap w'.heap ∧ ∃ u, n = .value u := by
      intro s hg hs
      simp only [Sem.run_bind] at hs
      cases hr : s.run P w with
      | halt x w'' => simp [hr] at hs
      | ok u w'' =>
        simp only [hr, Result.andThen_ok, Sem.run_pure, Result.ok.injEq] at hs
        exact ⟨by rw [← hs.2]; exact hg u w'' hr, u, hs.1.symm⟩
    cases op <;> simp only at hq h
    all_goals try (cases hq; done)
    case alloc e => exact key _ (fun u w' hr => grows_run _ (grows_alloc e) w u w' hr) h
    case buildSlice t n ps => exact key _ (fun u w' hr => grows_run _ (grows_buildSlice t n _) w u w' hr) h
    case binOp op t x y t' =>
      rw [Bool.and_eq_true] at hq
      exact key _ (fun u w' hr => grows_run _ (grows_bin hq.1 hq.2 hρ t) w u w' hr) h
    case convert src dst x =>
      refine key _ (fun u w' hr => ?_) h
      split at hq
      · rename_i e hs hd
        split at hq
        · rename_i he
          rw [convert_bytes hs hd he hr]; exact Pre.refl _
        · cases hq
      · rename_i hs hd
        rw [convert_int hs hd hr]; exact Pre.refl _
      · cases hq

theorem wpOp_putR {j : Nat} {oi oj : Oper} {v : Value} {h0 : Heap} (hj : ops[j]? = some oj) (hap : oi.apart ops oj = true) (hq : isSafe P oj = true)
    (hsi : ∀ cs b, oi.op ≠ .select cs b) (hsj : ∀ cs b, oj.op ≠ .select cs b)
    (hQ : ∀ c a w, ¬ Q (.panic c) a w) (hQo : ∀ a w, ¬ Q .outgrown a w) {K : Act → World → Prop} {a : Act} {w : World} (hw : Pre h0 w.heap)
    (hy : YieldsC P ops oi v a fun w => Pre h0 w.heap) (h : wpOp P ops Q j K (a.put oi.dst v) w) :
    wpOp P ops Q j (fun a' w' => Pre h0 w'.heap ∧ (YieldsC P ops oi v a' fun w => Pre h0 w.heap) ∧ K (a'.put oi.dst v) w') a w := by
  obtain ⟨h1, h2, h3⟩ := Oper.apart_spec hap
  have keep : ∀ (a : Act), (YieldsC P ops oi v a fun w => Pre h0 w.heap) → ∀ u, YieldsC P ops oi v (a.put oj.dst u) fun w => Pre h0 w.heap := fun a hy u =>
    hy.of_same (execOp_put oi hsi a oj.dst u h3) (wanted_put oi a oj.dst u h3)
  unfold wpOp at *
  simp only [hj] at *
  rw [wanted_put oj a oi.dst v h1] at h
  split
  · rename_i hwt
    simp only [hwt, if_true] at h
    rcases h with h | ⟨_, x, y, hlets⟩
    case inr => exact (hQo _ _ hlets).elim
    refine .inl ?_
    unfold Oper.wp at *
    rw [execOp_put oj hsj a oi.dst v h1] at h
    cases hr : (execOp a.eval oj).run P w with
    | ok n w' =>
      obtain ⟨hg, u, rfl⟩ := safe_value hq (fun c => rfl) hr
      have hh : Pre h0 w'.heap := hw.trans hg
      rw [hr] at h
      simp only [Oper.upon] at h ⊢
      exact ⟨hh, keep a hy u, by rw [← Act.put_comm a v u h2]; exact h⟩
    | halt x w' =>
      rw [hr] at h
      cases x <;> simp only [Oper.upon] at h
      case panic u => exact (hQ _ _ _ h).elim
  · rename_i hwt
    simp only [hwt] at h
    exact ⟨hw, keep a hy _, by rw [← Act.put_comm a v undef h2]; exact h⟩

theorem wpAny_read {i : Nat} {oi : Oper} {v : Value} {h0 : Heap} {D : Nat → Bool} (hi : ops[i]? = some oi) (hsel : ∀ (j : Nat) (o : Oper) cs b, ops[j]? = some o → o.op ≠ .select cs b)
    (hD : ∀ j oj, ops[j]? = some oj → D j = true → ∃ e ∈ oj.after, Region.binds md e = true ∧ (e.on = i ∨ D e.on = true))
    (hQ : ∀ c a w, ¬ Q (.panic c) a w) (hQo : ∀ a w, ¬ Q .outgrown a w) :
    ∀ (fuel : Nat) (listed : Array Bool) (a : Act) (w : World), Pre h0 w.heap →
      (∀ j oj, ops[j]? = some oj → j ≠ i → D j = false → listed.getD j true = false → oi.apart ops oj = true ∧ isSafe P oj = true) →
      (∀ j, D j = true → listed.getD j false = false) →
      i ∈ Region.ready md ops listed → (YieldsC P ops oi v a fun w => Pre h0 w.heap) →
      wpAny P md ops Q fuel (listed.setIfInBounds i true) (a.put oi.dst v) w → wpAny P md ops Q (fuel + 1) listed a w := by
  intro fuel
  induction fuel with
  | zero =>
    intro listed a w hw _ _ hr hy H
    refine ⟨fun h => (by rw [h] at hr; cases hr), fun j hj => ?_⟩
    by_cases hji : j = i
    · subst hji; exact hy.wpOp hi hw H
    · have := ready_mono hj hji
      rw [H.1] at this
      cases this
  | succ fuel ih =>
    intro listed a w hw hfree hdep hr hy H
    refine ⟨fun h => (by rw [h] at hr; cases hr), fun j hj => ?_⟩
    by_cases hji : j = i
    · subst hji; exact hy.wpOp hi hw H
    · have h1 := H.2 j (ready_mono hj hji)
      obtain ⟨hjun, oj, hoj, hall⟩ := mem_ready.1 hj
      have hDj : D j = false := by
        cases hd : D j with
        | false => rfl
        | true =>
          obtain ⟨e, he, hb, hon⟩ := hD j oj hoj hd
          have h1 := hall e he hb
          rcases hon with hon | hon
          · have h0 := (mem_ready.1 hr).1
            rw [hon] at h1
            rcases Nat.lt_or_ge i listed.size with h' | h'
            · simp [h'] at h0 h1; rw [h0] at h1; cases h1
            · simp [Array.getElem?_eq_none h'] at h1
          · rw [hdep _ hon] at h1; cases h1
      obtain ⟨hap, hq⟩ := hfree j oj hoj hji hDj hjun
      have h2 := wpOp_putR hoj hap hq (fun cs b => hsel i oi cs b hi) (fun cs b => hsel j oj cs b hoj) hQ hQo hw hy h1
      refine wpOp_mono (fun a' w' h3 => ih (listed.setIfInBounds j true) a' w' h3.1 ?_ ?_ (ready_mono hr (Ne.symm hji)) h3.2.1 ?_) h2
      · intro k ok hk hki hDk hun
        refine hfree k ok hk hki hDk ?_
        by_cases hjk : j = k
        · subst hjk; exact hjun
        · rw [getD_set_ne true hjk] at hun; exact hun
      · intro k hk
        have hjk : j ≠ k := fun e => by subst e; rw [hDj] at hk; cases hk
        rw [getD_set_ne false hjk]; exact hdep k hk
      · rw [Array.setIfInBounds_comm _ _ hji]
        exact h3.2.2
end

/-! ### The check -/

/-- What hangs on operation i, of those that are not yet listed. -/
def hangs (ops : Array Oper) (listed : Array Bool) (i : Nat) : List Nat :=
  (List.range ops.size).foldl (init := []) fun D j =>
    match ops[j]? with
    | some o => if !listed.getD j true && o.after.toList.any (fun e => Region.binds .any e && (e.on == i || D.contains e.on)) then j :: D else D
    | none => D

def hangsOk (ops : Array Oper) (listed : Array Bool) (i : Nat) (D : List Nat) : Bool :=
  D.all fun j => !listed.getD j false && match ops[j]? with
    | some o => o.after.toList.any fun e => Region.binds .any e && (e.on == i || D.contains e.on)
    | none => true

def readFree (P : Program) (ops : Array Oper) (listed : Array Bool) (i : Nat) : Bool :=
  match ops[i]? with
  | none => false
  | some oi => isLoad oi && hangsOk ops listed i (hangs ops listed i) && (List.range ops.size).all fun j => j == i || (hangs ops listed i).contains j || listed.getD j true || match ops[j]? with
      | some oj => oi.apart ops oj && isSafe P oj
      | none => true

def pureFree (P : Program) (ops : Array Oper) (listed : Array Bool) (i : Nat) : Bool :=
  match ops[i]? with
  | none => false
  | some oi => isPure' P oi && Region.free .any ops listed i

def heads : Tr → List Nat
  | .nil => []
  | .op i _ => [i]
  | .both t u => heads t ++ heads u

mutual
def chkT (P : Program) (ops : Array Oper) : Nat → Array Bool → Tr → Bool
  | _, listed, .nil => (Region.ready .any ops listed).isEmpty
  | 0, _, _ => false
  | fuel + 1, listed, .op i t => chkT P ops fuel (listed.setIfInBounds i true) t &&
      ((Region.ready .any ops listed == [i]) || ((Region.ready .any ops listed).contains i && (pureFree P ops listed i || readFree P ops listed i)))
  | fuel + 1, listed, .both t u => !(Region.ready .any ops listed).isEmpty && (Region.ready .any ops listed).all (fun r => (heads t ++ heads u).contains r) &&
      chkB P ops fuel listed t && chkB P ops fuel listed u
def chkB (P : Program) (ops : Array Oper) : Nat → Array Bool → Tr → Bool
  | _, _, .nil => false
  | fuel, listed, .op i t => chkT P ops fuel (listed.setIfInBounds i true) t
  | fuel, listed, .both t u => chkB P ops fuel listed t && chkB P ops fuel listed u
end

theorem hangsOk_spec {ops : Array Oper} {listed : Array Bool} {i : Nat} {D : List Nat} (h : hangsOk ops listed i D = true) :
    (∀ j oj, ops[j]? = some oj → D.contains j = true → ∃ e ∈ oj.after, Region.binds .any e = true ∧ (e.on = i ∨ D.contains e.on = true)) ∧ (∀ j, D.contains j = true → listed.getD j false = false) := by
  unfold hangsOk at h
  rw [List.all_eq_true] at h
  refine ⟨fun j oj hj hd => ?_, fun j hd => ?_⟩
  · have := h j (by simpa using hd)
    simp only [hj, Bool.and_eq_true, List.any_eq_true] at this
    obtain ⟨-, e, he, h1, h2⟩ := this
    refine ⟨e, by simpa using he, h1, ?_⟩
    simpa using h2
  · have := h j (by simpa using hd)
    simp only [Bool.and_eq_true, Bool.not_eq_true'] at this
    exact this.1

theorem chk_sound {P : Program} {N : Nat} {ops : Array Oper} {Q : PEnv → Heap → Prop} {Q' : Exit → Act → World → Prop} {w0 : World} (hs : Region.noSelect ops = true) (hd : dstsOk N ops = true)
    (hQ : ∀ c a w, ¬ Q' (.panic c) a w) (hQo : ∀ a w, ¬ Q' .outgrown a w) (hq : ∀ ρ a w, Q ρ w.heap → Fits N ρ a → Rest w0 w → Q' .normal a w) : ∀ tr : Tr,
    (∀ fuel listed, chkT P ops fuel listed tr = true → ∀ dec ρ a w, Fits N ρ a → Rest w0 w → evT P ops Q tr dec ρ w.heap → wpAny P .any ops Q' fuel listed a w) ∧
    (∀ fuel listed, chkB P ops fuel listed tr = true → ∀ dec ρ a w, Fits N ρ a → Rest w0 w → evT P ops Q tr dec ρ w.heap → ∀ i ∈ heads tr, wpOp P ops Q' i (wpAny P .any ops Q' fuel (listed.setIfInBounds i true)) a w) := by
  intro tr
  induction tr with
  | nil =>
    refine ⟨fun fuel listed hc dec ρ a w hf hr he => ?_, fun fuel listed hc dec ρ a w hf hr he i hi => by cases hi⟩
    have hc' : (Region.ready .any ops listed).isEmpty = true := by cases fuel <;> simpa [chkT] using hc
    exact wpAny_done (by simpa using hc') (hq ρ a w he hf hr) fuel
  | op i t ih =>
    refine ⟨fun fuel listed hc dec ρ a w hf hr he => ?_, fun fuel listed hc dec ρ a w hf hr he j hj => ?_⟩
    · cases fuel with
      | zero => simp [chkT] at hc
      | succ fuel =>
        simp only [chkT, Bool.and_eq_true, Bool.or_eq_true] at hc
        obtain ⟨hc1, hc2⟩ := hc
        rcases hc2 with hc2 | ⟨hr1, hfree⟩
        · have hre : Region.ready .any ops listed = [i] := by simpa using hc2
          refine wpAny_all hre (by simp) fun j hj => ?_
          obtain rfl : j = i := by simpa using hj
          exact evStep_sound hd hf hr he fun dec ρ a w hf hr he => ih.1 fuel _ hc1 dec ρ a w hf hr he
        · rcases hfree with hfree | hfree
          · unfold pureFree at hfree
            cases ho : ops[i]? with
            | none => simp [ho] at hfree
            | some oi =>
              simp only [ho, Bool.and_eq_true] at hfree
              obtain ⟨v, hy, dec', ρ', hk, hf'⟩ := evStep_tells ho (tells_pure hfree.1) hd hf he
              have hy' : Yields P ops oi v a := by
                rcases hy with ⟨h1, h2⟩ | h
                · exact .inl ⟨h1, fun w => h2 w trivial⟩
                · exact .inr h
              exact wpAny_take ho hs hfree.2 hr1 (fun c a w h => (hQ _ _ _ h).elim) hy' (ih.1 fuel _ hc1 dec' ρ' _ w hf' hr hk)
          · unfold readFree at hfree
            cases ho : ops[i]? with
            | none => simp [ho] at hfree
            | some oi =>
              simp only [ho, Bool.and_eq_true] at hfree
              obtain ⟨⟨hl, hh⟩, hall⟩ := hfree
              obtain ⟨v, hy, dec', ρ', hk, hf'⟩ := evStep_tells ho (tells_load hl) hd hf he
              obtain ⟨hD, hdep⟩ := hangsOk_spec hh
              refine wpAny_read (D := fun j => (hangs ops listed i).contains j) ho (Region.noSelect_spec hs) hD hQ hQo fuel listed a w (Pre.refl _) ?_ hdep (by simpa using hr1) hy (ih.1 fuel _ hc1 dec' ρ' _ w hf' hr hk)
              intro j oj hoj hji hDj hun
              have := List.all_eq_true.1 hall j (by simpa using (Array.getElem?_eq_some_iff.1 hoj).1)
              simp only [hoj, Bool.or_eq_true, beq_iff_eq, hji, false_or, hDj, Bool.false_eq_true, hun, Bool.and_eq_true] at this
              exact this
    · obtain rfl : j = i := by simpa [heads] using hj
      have hc' : chkT P ops fuel (listed.setIfInBounds j true) t = true := by simpa [chkB] using hc
      exact evStep_sound hd hf hr he fun dec ρ a w hf hr he => ih.1 fuel _ hc' dec ρ a w hf hr he
  | both t u iht ihu =>
    have B : ∀ fuel listed, chkB P ops fuel listed t = true → chkB P ops fuel listed u = true → ∀ dec ρ a w, Fits N ρ a → Rest w0 w → evT P ops Q t dec ρ w.heap ∧ evT P ops Q u dec ρ w.heap →
        ∀ i ∈ heads t ++ heads u, wpOp P ops Q' i (wpAny P .any ops Q' fuel (listed.setIfInBounds i true)) a w := by
      intro fuel listed h1 h2 dec ρ a w hf hr he i hi
      rcases List.mem_append.1 hi with hi | hi
      · exact iht.2 fuel listed h1 dec ρ a w hf hr he.1 i hi
      · exact ihu.2 fuel listed h2 dec ρ a w hf hr he.2 i hi
    refine ⟨fun fuel listed hc dec ρ a w hf hr he => ?_, fun fuel listed hc dec ρ a w hf hr he j hj => ?_⟩
    · cases fuel with
      | zero => simp [chkT] at hc
      | succ fuel =>
        simp only [chkT, Bool.and_eq_true] at hc
        obtain ⟨⟨⟨h0, h1⟩, h2⟩, h3⟩ := hc
        refine wpAny_all rfl (by intro e; simp [e] at h0) fun j hj => ?_
        exact B fuel listed h2 h3 dec ρ a w hf hr he j (by simpa using List.all_eq_true.1 h1 j hj)
    · simp only [chkB, Bool.and_eq_true] at hc
      exact B fuel listed hc.1 hc.2 dec ρ a w hf hr he j hj

def drawChk (P : Program) (N : Nat) (ops : Array Oper) (tr : Tr) : Bool :=
  P.follows .mixedOrders && Region.noSelect ops && dstsOk N ops && chkT P ops ops.size (Array.replicate ops.size false) tr

theorem draw_ok {P : Program} {N : Nat} {ops : Array Oper} {tr : Tr} (h : drawChk P N ops tr = true) : DrawOK P N ops tr := by
  simp only [drawChk, Bool.and_eq_true] at h
  obtain ⟨⟨⟨hm, hs⟩, hd⟩, hc⟩ := h
  intro Q Q' w0 hQ hQo hq ρ a w hf hr he t
  simp only [Region.schedule, hm, Bool.true_or, if_true]
  exact wpAny_sound ops.size t _ a _ ((chk_sound hs hd hQ hQo hq tr).1 ops.size _ hc [] ρ a { w with drawn := w.drawn + 1 } hf (hr.trans ⟨rfl, rfl, rfl⟩) he)

abbrev KT := Value → Heap → Prop
abbrev OA := Option Addr
def Imp {l : Live} (j : Tup l → Heap → Prop) : Prop := ∀ x h, j x h → j x h
theorem imp {l : Live} (j : Tup l → Heap → Prop) : Imp j := fun _ _ H => H
def ImpN {l : Live} (j : Nat → Tup l → Heap → Prop) : Prop := ∀ n x h, j (n + 1) x h → j (n + 1) x h
theorem impN {l : Live} (j : Nat → Tup l → Heap → Prop) : ImpN j := fun _ _ _ H => H
def Obl (P : Program) (fn : Func) (p : Plan) (K : KT) : Prop := oblF P fn.ntmps (bodyOf fn) p (retQ P fn.results.toList K) True
def Ev (P : Program) (fn : Func) (p : Plan) (K : KT) (args : List Value) (h : Heap) : Prop := ev P (bodyOf fn) p (retQ P fn.results.toList K) (args0 0 args) h
theorem obl_of {P : Program} {fn : Func} {p : Plan} {K : KT} {R : Prop} (e : Obl P fn p K = R) (r : R) : Obl P fn p K := e ▸ r
theorem obl_true {P : Program} {fn : Func} {p : Plan} {K : KT} (e : Obl P fn p K = True) : Obl P fn p K := e ▸ trivial

theorem calls_of_Ev {P : Program} {f : FuncId} {fn : Func} (p : Plan) {args : List Value} {K : KT} {h : Heap} (hfn : P.funcs[f]? = some fn) (hb : fitF fn args.length = true)
    (ho : Obl P fn p K) (he : Ev P fn p K args h) : CallsH P f args K h := calls_of_evF p hfn hb ho he

/-- The operations of the region with this number. -/
def opsAt (n : Nat) : Code → Array Oper
  | .region id ops _ => if id = n then ops else #[]
  | .seq x y => match opsAt n x with
    | ⟨[]⟩ => opsAt n y
    | l => l
  | .cond _ x y => match opsAt n x with
    | ⟨[]⟩ => opsAt n y
    | l => l
  | .block _ c => opsAt n c
  | .loop c => opsAt n c
  | _ => #[]

end Go.Lift
