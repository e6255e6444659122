/- brokTakes_holds: all that the theorem needs, in a few texts (bundle.py; made of the texts that NOTES.md names). -/
import Derived.Below
import Derived.Laws.Sem
import Derived.Laws.Strings
import Derived.LoopN
import Derived.Orders
import Derived.Test.YtofpbcakppjgcaaGreatDoorBBrokTakes2
section
namespace Go.Lift
def upto (P:Program) (w:World) (k:Value→Heap→Prop):Result Next→Prop
  | .ok (.value v) w'=>k v w'.heap∧Rest w w'
  | .ok .skip w'=>k undef w'.heap∧Rest w w'
  | .ok (.enter f args) w'=>Rest w w'∧Calls P f args w' (fun e w''=>∃ v,e=.returned v∧k v w''.heap∧Rest w' w'')
  | _=>False
def OpOK (P:Program) (o:Oper) (a:Act) (w:World) (k:Value→Heap→Prop):Prop:=upto P w k ((execOp a.eval o).run P w)
section
variable {P:Program}{w:World}{k:Value→Heap→Prop}
theorem upto_value {v:Value} (h:k v w.heap):upto P w k (.ok (.value v) w):=⟨h,Rest.refl w⟩
theorem run_typeInfo (t:TypeId) (i:TypeInfo) (h:P.info? t=some i):(typeInfo t).run P w=.ok i w:=by
  simp [typeInfo,h]
theorem run_underlying (t:TypeId) (d:TypeDesc) (h:P.underlying t=some d):(underlying t).run P w=.ok d w:=by
  simp [underlying,h]
theorem info_of_underlying {t:TypeId}{d:TypeDesc} (h:P.underlying t=some d):∃ i,P.info? t=some i:=by
  unfold Program.underlying at h
  split at h <;> first | exact ⟨_,by assumption⟩ | cases h
theorem run_sizeOf (t:TypeId) (d:TypeDesc) (h:P.underlying t=some d):(sizeOf t).run P w=.ok (P.cellsOf t) w:=by
  obtain ⟨i,hi⟩:=info_of_underlying h
  simp [sizeOf,run_typeInfo t i hi,Program.cellsOf,hi]
theorem run_sizeOf' (t:TypeId) (h:Nat.beq (P.cellsOf t) 0=false):(sizeOf t).run P w=.ok (P.cellsOf t) w:=by
  cases hi:P.info? t with
  | none=>simp [Program.cellsOf,hi] at h
  | some i=>simp [sizeOf,run_typeInfo t i hi,Program.cellsOf,hi]
theorem run_zeroValue (t:TypeId) (z:Value) (h:zinfo P t=some z):(zeroValue t).run P w=.ok z w:=by
  unfold zinfo at h
  cases hi:P.info? t with
  | none=>simp [hi] at h
  | some i =>
    simp only [hi] at h
    simp [zeroValue,run_typeInfo t i hi,h]
theorem run_isAgg_scalar (t:TypeId) (h:scalar (P.underlying t)=true):(isAgg t).run P w=.ok false w:=by
  cases hu:P.underlying t with
  | none=>simp [hu,scalar] at h
  | some d =>
    rw [hu] at h
    simp only [isAgg,Sem.run_bind,run_underlying t d hu,Result.andThen_ok]
    cases d <;> simp_all [scalar]
theorem genH {h:Heap}{s:Sem Value}{T:Option TypeDesc} (hw:w.heap=h) (he:SemH P s (fun v h'=>tyd P T v fun u=>k u h') h) :
    ∃ v w',s.run P w=.ok v w'∧k v w'.heap∧Rest w w':=by
  obtain ⟨v,w',h1,h2,h3⟩:=he w hw
  exact ⟨v,w',h1,tyd_spec h2,h3⟩
theorem upto_gen {h:Heap}{s:Sem Value}{T:Option TypeDesc} (hw:w.heap=h) (he:SemH P s (fun v h'=>tyd P T v fun u=>k u h') h) :
    upto P w k ((do pure (Next.value (← s)):Sem Next).run P w):=by
  obtain ⟨v,w',h1,h2,h3⟩:=genH hw he
  simp only [Sem.run_bind,h1,Result.andThen_ok,Sem.run_pure]
  exact ⟨h2,h3⟩
theorem upto_unit {h:Heap}{s:Sem Unit} (hw:w.heap=h) (he:SemH P (unit s) k h) :
    upto P w k ((do s; pure Next.skip:Sem Next).run P w):=by
  obtain ⟨v,w',h1,h2,h3⟩:=he w hw
  simp only [unit,Sem.run_bind] at h1
  cases hs:s.run P w with
  | halt x w''=>simp [hs] at h1
  | ok u w'' =>
    simp only [hs,Result.andThen_ok,Sem.run_pure,Result.ok.injEq] at h1
    obtain ⟨rfl,rfl⟩:=h1
    simp only [Sem.run_bind,hs,Result.andThen_ok,Sem.run_pure]
    exact ⟨h2,h3⟩
theorem upto_v {s:Sem Value}{v:Value}{w':World} (h:s.run P w=.ok v w') (hk:k v w'.heap) (hr:Rest w w') :
    upto P w k ((do pure (Next.value (← s)):Sem Next).run P w):=by
  simp only [Sem.run_bind,h,Result.andThen_ok,Sem.run_pure]
  exact ⟨hk,hr⟩
theorem upto_u {s:Sem Unit}{w':World} (h:s.run P w=.ok () w') (hk:k undef w'.heap) (hr:Rest w w') :
    upto P w k ((do s; pure Next.skip:Sem Next).run P w):=by
  simp only [Sem.run_bind,h,Result.andThen_ok,Sem.run_pure]
  exact ⟨hk,hr⟩
theorem parts_eval {N:Nat}{ρ:PEnv}{a:Act} (h:Fits N ρ a):∀ {xs:List (Nat × Operand)}{vs:List (Nat × Value)},ρ.parts xs=some vs→xs.map (fun p=>(p.1,a.eval p.2))=vs
  | [],vs,hx=>by simp only [PEnv.parts,Option.some.injEq] at hx; simp [← hx]
  | x::xs,vs,hx=>by
    simp only [PEnv.parts] at hx
    cases h1:ρ.val x.2 with
    | none=>simp [h1] at hx
    | some v =>
      cases h2:ρ.parts xs with
      | none=>simp [h1,h2] at hx
      | some us =>
        simp only [h1,h2,Option.some.injEq] at hx
        subst hx
        simp [h.val h1,parts_eval h h2]
theorem one_cells {v:Value} (h:one v=true):v.cells=#[v]:=by cases v <;> simp_all [one,Value.cells]
theorem fillS_fill (pl:Nat→Option (Nat × Nat)):∀ (ps:List (Nat × Value)) (cells cs:List Value),fillS pl cells ps=some cs→Instr.fill pl cells.toArray ps=some cs.toArray
  | [],cells,cs,h=>by simp only [fillS,Option.some.injEq] at h; subst h; rfl
  | p::rest,cells,cs,h=>by
    unfold fillS at h
    split at h
    · rename_i off hpl
      split at h
      · rename_i h1
        split at h
        · rename_i hlt
          have hlt':off<cells.length:=Nat.le_of_ble_eq_true hlt
          have hr:=fillS_fill pl rest _ _ h
          obtain ⟨i,v⟩:=p
          simp only at hpl h1 hr
          simp only [Instr.fill,hpl,one_cells h1]
          rw [if_neg (by simp; omega)]
          simp only [Array.zipIdx]
          simpa using hr
        · cases h
      · cases h
    · cases h
theorem run_known {t:TypeId} (h:(P.info? t).isSome=true):(sizeOf t).run P w=.ok (P.cellsOf t) w:=by
  obtain ⟨i,hi⟩:=Option.isSome_iff_exists.1 h
  simp [sizeOf,run_typeInfo t i hi,Program.cellsOf,hi]
theorem run_mapM_sizes (l:List Field) (h:l.all (fun f=>(P.info? f.type).isSome)=true) :
    (l.mapM (fun f=>do pure (f.offset,← sizeOf f.type)):Sem (List (Nat × Nat))).run P w=.ok (l.map fun f=>(f.offset,P.cellsOf f.type)) w:=by
  induction l with
  | nil=>simp
  | cons f l ih =>
    simp only [List.all_cons,Bool.and_eq_true] at h
    have h2:=ih h.2
    simp only [List.mapM_cons,Sem.run_bind,run_known h.1,Result.andThen_ok,Sem.run_pure,List.map_cons]
    rw [h2]
    rfl
theorem run_build {t:TypeId}{ps:Array (Nat × Value)}{z:Value}{cs:List Value} (hk:known P (P.underlying t)=true) (hz:zinfo P t=some z)
    (hf:Instr.fill (places P (P.underlying t)) z.cells ps.toList=some cs.toArray):(Instr.build t ps).run P w=.ok (.agg cs.toArray) w:=by
  cases hu:P.underlying t with
  | none=>simp [hu,known] at hk
  | some d =>
    rw [hu] at hk hf
    simp only [Instr.build,Sem.run_bind,run_zeroValue t z hz,Result.andThen_ok,run_underlying t d hu]
    cases d with
    | struct fs =>
      simp only [known] at hk
      have hm:(fs.mapM (fun f=>do pure (f.offset,← sizeOf f.type)):Sem (Array (Nat × Nat))).run P w=.ok (fs.map fun f=>(f.offset,P.cellsOf f.type)) w:=by
        rw [Array.mapM_eq_mapM_toList]
        simp only [Sem.run_map,run_mapM_sizes fs.toList hk,Result.andThen_ok]
        congr 1
        apply Array.toList_inj.1; simp
      simp only [Sem.run_bind,hm,Result.andThen_ok]
      have hp:(fun i=>(fs.map fun f=>(f.offset,P.cellsOf f.type))[i]?)=places P (some (.struct fs)):=by
        funext i
        simp only [places,Array.getElem?_map]
        cases fs[i]? <;> rfl
      rw [hp,hf]
      rfl
    | array n e =>
      simp only [known] at hk
      simp only [Sem.run_bind,run_known hk,Result.andThen_ok]
      have hp:(fun i=>some (i * P.cellsOf e,P.cellsOf e))=places P (some (.array n e)):=rfl
      rw [hp,hf]
      rfl
    | _=>simp [known] at hk
theorem zrow_eq (z:Array Value) (len size:Nat):(Array.range (len * size)).map (fun i=>z[i % z.size]!)=(zrow z.toList len size).toArray:=by
  apply Array.toList_inj.1
  simp [zrow,List.getD]
  intro i _
  rw [getElem!_def]
  cases z[i % z.size]? <;> rfl
theorem mapArr {α β:Type} (f:α→β) (xs:Array α):xs.map f=(xs.toList.map f).toArray:=by
  apply Array.toList_inj.1; simp
theorem run_loadVar_scalar {t:TypeId}{a:Addr}{u:Value} (hs:scalar (P.underlying t)=true) (hc:hcell w.heap a=some u):(loadVar t a).run P w=.ok u w:=by
  simp only [loadVar,Sem.run_bind,run_isAgg_scalar t hs,Result.andThen_ok,Bool.false_eq_true,if_false]
  simp [run_load,cell_eq,hc]
theorem run_isAgg_agg {t:TypeId}{d:TypeDesc} (hu:P.underlying t=some d) (hd:(match d with | .struct _=>true | .array _ _=>true | _=>false)=true):(isAgg t).run P w=.ok true w:=by
  simp only [isAgg,Sem.run_bind,run_underlying t d hu,Result.andThen_ok]
  cases d <;> simp_all
theorem run_loadVar_agg {t:TypeId}{a:Addr}{d:TypeDesc}{cs:List Value} (hu:P.underlying t=some d) (hd:(match d with | .struct _=>true | .array _ _=>true | _=>false)=true)
    (hc:rdC w.heap a 0 (P.cellsOf t)=some cs):(loadVar t a).run P w=.ok (.agg cs.toArray) w:=by
  simp only [loadVar,Sem.run_bind,run_isAgg_agg hu hd,Result.andThen_ok,if_true,run_sizeOf t d hu,loadCells,run_loadCellsFrom P a w _ 0 #[] cs hc,Sem.run_pure]
  simp
theorem run_storeVar {t:TypeId}{a:Addr}{v:Value}{h':Heap} (ht:(P.info? t).isSome=true) (hsz:v.cells.size=P.cellsOf t) (hst:stC w.heap a 0 v.cells.toList=some h') :
    ∃ w',(storeVar t a v).run P w=.ok () w'∧w'.heap=h'∧Rest w w':=by
  obtain ⟨w',h1,h2,h3⟩:=run_storeCells P a _ 0 w h' hst
  refine ⟨w',?_,h2,h3⟩
  simp only [storeVar,Sem.run_bind,run_known ht,Result.andThen_ok]
  rw [if_neg (by omega)]
  exact h1
theorem run_part_scalar {t:TypeId}{cs:Array Value}{off:Nat}{u:Value} (hs:scalar (P.underlying t)=true) (hc:cs.toList[off]? = some u):(part t cs off).run P w=.ok u w:=by
  simp only [part,Sem.run_bind,run_isAgg_scalar t hs,Result.andThen_ok,Bool.false_eq_true,if_false]
  rw [← Array.getElem?_toList,hc]
  rfl
theorem run_part_agg {t:TypeId}{cs:Array Value}{off:Nat}{d:TypeDesc} (hu:P.underlying t=some d) (hd:(match d with | .struct _=>true | .array _ _=>true | _=>false)=true) :
    (part t cs off).run P w=.ok (.agg ((cs.toList.drop off).take (P.cellsOf t)).toArray) w:=by
  simp only [part,Sem.run_bind,run_isAgg_agg hu hd,Result.andThen_ok,if_true,run_sizeOf t d hu,Sem.run_pure]
  congr 2
  apply Array.toList_inj.1
  simp [Array.toList_extract,List.extract_eq_take_drop]
theorem equal_depth (t:TypeId) (x y:Value):∃ d,Op.equal t x y=Op.equalIn (d+1) t x y:=⟨9999,rfl⟩
theorem eq_bool {t:TypeId} (hu:P.underlying t=some .bool) (m n:Bool):(Op.equal t (.bool m) (.bool n)).run P w=.ok (m==n) w:=by
  obtain ⟨d,hd⟩:=equal_depth t (.bool m) (.bool n)
  rw [hd]
  unfold Op.equalIn
  simp only [Sem.run_bind,run_underlying t _ hu,Result.andThen_ok,Sem.run_pure]
theorem eq_slice {t e:TypeId} (hu:P.underlying t=some (.slice e)) (p:Option Addr) (l c l' c':Nat):(Op.equal t (.slice p l' c') (.slice none l c)).run P w=.ok p.isNone w:=by
  obtain ⟨d,hd⟩:=equal_depth t (.slice p l' c') (.slice none l c)
  rw [hd]
  unfold Op.equalIn
  simp only [Sem.run_bind,run_underlying t _ hu,Result.andThen_ok]
  cases p <;> rfl
theorem eq_map {t ke e:TypeId} (hu:P.underlying t=some (.map ke e)) (p:Option Nat):(Op.equal t (.map p) (.map none)).run P w=.ok p.isNone w:=by
  obtain ⟨d,hd⟩:=equal_depth t (.map p) (.map none)
  rw [hd]
  unfold Op.equalIn
  simp only [Sem.run_bind,run_underlying t _ hu,Result.andThen_ok]
  cases p <;> rfl
theorem eq_pointer {t e:TypeId} (hu:P.underlying t=some (.pointer e)) (p:Option Addr):(Op.equal t (.pointer p) (.pointer none)).run P w=.ok p.isNone w:=by
  obtain ⟨d,hd⟩:=equal_depth t (.pointer p) (.pointer none)
  rw [hd]
  unfold Op.equalIn
  simp only [Sem.run_bind,run_underlying t _ hu,Result.andThen_ok]
  cases p <;> rfl
theorem bin_sound {op:BinOp}{t:TypeId}{x y:Operand}{a b:Value}{h:Heap}{T:Option TypeDesc} (hw:w.heap=h)
    (he:evBin P op t x y a b (fun v=>k v h) (SemH P (do eqGuard op t x y a b; Go.binOp op t a b) (fun v h'=>tyd P T v fun u=>k u h') h))
    (hy:∀ c,y=.const c→b=c) :
    ∃ v w',((do eqGuard op t x y a b; Go.binOp op t a b):Sem Value).run P w=.ok v w'∧k v w'.heap∧Rest w w':=by
  unfold evBin at he
  cases hu:P.underlying t with
  | none=>simp only [hu] at he; exact genH hw he
  | some d =>
    simp only [hu] at he
    cases d with
    | int kd =>
      simp only at he
      split at he
      · rename_i ka m kb n
        have hg:(eqGuard op t x y (.int ka m) (.int kb n)).run P w=.ok () w:=by
          unfold eqGuard
          split <;> simp
        simp only [Sem.run_bind,hg,Result.andThen_ok]
        cases op <;> simp only at he <;> first
          | (obtain ⟨h0,he⟩:=he
             refine ⟨_,w,?_,by rw [hw]; exact he,Rest.refl w⟩
             simp only [Go.binOp,Op.shift]
             rw [if_neg (by omega)]
             rfl)
          | (split at he
             · rename_i hk
               subst hk
               first
                 | (obtain ⟨h0,he⟩:=he
                    refine ⟨_,w,?_,by rw [hw]; exact he,Rest.refl w⟩
                    simp only [Go.binOp,ne_eq,not_true_eq_false,if_false,Op.intDiv,h0]
                    rfl)
                 | (refine ⟨_,w,?_,by rw [hw]; exact he,Rest.refl w⟩
                    simp [Go.binOp,Op.intArith,Op.intBits,Op.intCmp,bitsI])
             · exact he.elim)
      · exact he.elim
    | string =>
      simp only at he
      split at he
      · rename_i m n
        have hg:(eqGuard op t x y (.string m) (.string n)).run P w=.ok () w:=by
          unfold eqGuard
          split <;> simp
        simp only [Sem.run_bind,hg,Result.andThen_ok]
        cases op <;> simp only at he <;> first
          | exact he.elim
          | (obtain ⟨h0,he⟩:=he
             refine ⟨_,w,?_,by rw [hw]; exact he,Rest.refl w⟩
             simp only [Go.binOp,Op.stringOp]
             rw [if_neg (by rw [sl_length,sl_length] at h0; exact Int.not_lt.2 (show ((m.size+n.size:Nat):Int)≤IntKind.i64.max from h0)),sl_append]
             rfl)
          | (refine ⟨_,w,?_,by rw [hw]; exact he,Rest.refl w⟩
             simp [Go.binOp,Op.stringOp,ByteArray.toList_eq,sl])
      · exact he.elim
    | bool =>
      simp only at he
      split at he
      · rename_i m n
        have hg:(eqGuard op t x y (.bool m) (.bool n)).run P w=.ok () w:=by
          unfold eqGuard
          split <;> simp
        have hq:=eq_bool (w:=w) hu m n
        simp only [Sem.run_bind,hg,Result.andThen_ok]
        cases op <;> simp only at he <;> first
          | exact he.elim
          | (refine ⟨_,w,?_,by rw [hw]; exact he,Rest.refl w⟩
             simp only [Go.binOp,Sem.run_bind,hq,Result.andThen_ok,Sem.run_pure])
      · exact he.elim
    | slice e =>
      simp only at he
      split at he
      · rename_i l c
        split at he <;> try exact he.elim
        rename_i p l' c'
        obtain rfl:=hy _ rfl
        have hg:(eqGuard op t x (.const (.slice none l c)) (.slice p l' c') (.slice none l c)).run P w=.ok () w:=by
          unfold eqGuard
          split <;> simp
        have hq:=eq_slice (w:=w) hu p l c l' c'
        simp only [Sem.run_bind,hg,Result.andThen_ok]
        cases op <;> simp only at he <;> first
          | exact he.elim
          | (refine ⟨_,w,?_,by rw [hw]; exact he,Rest.refl w⟩
             simp only [Go.binOp,Sem.run_bind,hq,Result.andThen_ok,Sem.run_pure])
      · exact genH hw he
    | map ke e =>
      simp only at he
      split at he
      · split at he <;> try exact he.elim
        rename_i p
        obtain rfl:=hy _ rfl
        have hg:(eqGuard op t x (.const (.map none)) (.map p) (.map none)).run P w=.ok () w:=by
          unfold eqGuard
          split <;> simp
        have hq:=eq_map (w:=w) hu p
        simp only [Sem.run_bind,hg,Result.andThen_ok]
        cases op <;> simp only at he <;> first
          | exact he.elim
          | (refine ⟨_,w,?_,by rw [hw]; exact he,Rest.refl w⟩
             simp only [Go.binOp,Sem.run_bind,hq,Result.andThen_ok,Sem.run_pure])
      · exact genH hw he
    | pointer e =>
      simp only at he
      split at he
      · split at he <;> try exact he.elim
        rename_i p
        obtain rfl:=hy _ rfl
        have hg:(eqGuard op t x (.const (.pointer none)) (.pointer p) (.pointer none)).run P w=.ok () w:=by
          unfold eqGuard
          split <;> simp
        have hq:=eq_pointer (w:=w) hu p
        simp only [Sem.run_bind,hg,Result.andThen_ok]
        cases op <;> simp only at he <;> first
          | exact he.elim
          | (refine ⟨_,w,?_,by rw [hw]; exact he,Rest.refl w⟩
             simp only [Go.binOp,Sem.run_bind,hq,Result.andThen_ok,Sem.run_pure])
      · exact genH hw he
    | _=>exact genH hw he
theorem conv_sound {src dst:TypeId}{v:Value}{h:Heap}{T:Option TypeDesc} (hw:w.heap=h)
    (he:evConv P src dst v (fun v=>k v h) (SemH P (Go.convert src dst v) (fun v h'=>tyd P T v fun u=>k u h') h)) :
    ∃ u w',(Go.convert src dst v).run P w=.ok u w'∧k u w'.heap∧Rest w w':=by
  unfold evConv at he
  split at he
  · rename_i h1 h2
    split at he
    · refine ⟨_,w,?_,by rw [hw]; exact he,Rest.refl w⟩
      unfold Go.convert
      simp only [Sem.run_bind,run_underlying _ _ h1,run_underlying _ _ h2,Result.andThen_ok,Conv.intToInt,Sem.run_pure]
    · exact he.elim
  · rename_i h1 h2
    split at he
    · refine ⟨_,w,?_,by rw [hw]; exact he,Rest.refl w⟩
      unfold Go.convert
      simp only [Sem.run_bind,run_underlying _ _ h1,run_underlying _ _ h2,Result.andThen_ok,Sem.run_pure]
    · exact he.elim
  · exact genH hw he
theorem run_sliceBound {kd:IntKind}{i:Int}{y:Nat}{code:BoundsCode} (hb:inB i y):(Instr.sliceBound (.int kd i) y code).run P w=.ok i.toNat w:=by
  unfold Instr.sliceBound
  simp only [Sem.run_bind,asIntOf,Sem.run_pure,Result.andThen_ok]
  rw [if_pos (show 0≤i∧i≤(y:Int) from hb)]
  rfl
theorem slice_sound {t:TypeId}{v:Value}{lo hi:Option Value}{h:Heap}{T:Option TypeDesc} (hw:w.heap=h)
    (he:evSlice P t v lo hi (fun v=>k v h) (SemH P (Instr.sliceAt t v lo hi none) (fun v h'=>tyd P T v fun u=>k u h') h)) :
    ∃ u w',(Instr.sliceAt t v lo hi none).run P w=.ok u w'∧k u w'.heap∧Rest w w':=by
  unfold evSlice at he
  split at he
  · rename_i hu
    split at he <;> try exact he.elim
    rename_i s
    have e0:s.extract 0 s.size=s:=by rw [sl_extract]; apply sl_ext; rw [sl_mkS,← sl_length]; simp
    have e1:∀ l,s.extract l s.size=mkS ((sl s).drop l):=fun l=>by rw [sl_extract,← sl_length,List.take_length]
    have e2:∀ h,s.extract 0 h=mkS ((sl s).take h):=fun h=>by rw [sl_extract,List.drop_zero]
    split at he
    · refine ⟨_,w,?_,by rw [hw]; exact he,Rest.refl w⟩
      have hr:(Instr.sliceAt t (.string s) none none none).run P w=.ok (.string (s.extract 0 s.size)) w:=by
        simp [Instr.sliceAt,run_underlying _ _ hu,Instr.slice,Instr.sliceBounds]
      rw [hr,e0]
    · obtain ⟨hl,he⟩:=he
      rw [sl_length] at hl
      refine ⟨_,w,?_,by rw [hw]; exact he,Rest.refl w⟩
      simp [Instr.sliceAt,run_underlying _ _ hu,Instr.slice,Instr.sliceBounds,run_sliceBound hl,e1]
    · obtain ⟨hl,he⟩:=he
      rw [sl_length] at hl
      refine ⟨_,w,?_,by rw [hw]; exact he,Rest.refl w⟩
      simp [Instr.sliceAt,run_underlying _ _ hu,Instr.slice,Instr.sliceBounds,run_sliceBound hl,e2]
    · obtain ⟨hl,hl',he⟩:=he
      rw [sl_length] at hl
      refine ⟨_,w,?_,by rw [hw]; exact he,Rest.refl w⟩
      simp [Instr.sliceAt,run_underlying _ _ hu,Instr.slice,Instr.sliceBounds,run_sliceBound hl,run_sliceBound hl',sl_extract]
    · exact he.elim
  · rename_i e hu
    split at he <;> try exact he.elim
    rename_i a len cap
    split at he
    · rename_i hk
      split at he
      · refine ⟨_,w,?_,by rw [hw]; exact he,Rest.refl w⟩
        simp [Instr.sliceAt,run_underlying _ _ hu,Instr.slice,Instr.sliceBounds,run_known hk,slA]
      · obtain ⟨hl,he⟩:=he
        refine ⟨_,w,?_,by rw [hw]; exact he,Rest.refl w⟩
        simp [Instr.sliceAt,run_underlying _ _ hu,Instr.slice,Instr.sliceBounds,run_sliceBound hl,run_known hk,slA]
      · obtain ⟨hl,he⟩:=he
        refine ⟨_,w,?_,by rw [hw]; exact he,Rest.refl w⟩
        simp [Instr.sliceAt,run_underlying _ _ hu,Instr.slice,Instr.sliceBounds,run_sliceBound hl,run_known hk,slA]
      · obtain ⟨hl,hl',he⟩:=he
        refine ⟨_,w,?_,by rw [hw]; exact he,Rest.refl w⟩
        simp [Instr.sliceAt,run_underlying _ _ hu,Instr.slice,Instr.sliceBounds,run_sliceBound hl,run_sliceBound hl',run_known hk,slA]
      · exact he.elim
    · exact he.elim
  · exact genH hw he
theorem calls_upto {f:FuncId}{vs:List Value}{h:Heap}{T:Option TypeDesc} (hw:w.heap=h)
    (he:CallsH P f vs (fun v h'=>tyd P T v fun u=>k u h') h):upto P w k ((callFunc f vs.toArray).run P w):=by
  obtain ⟨hb,hc⟩:=he
  cases hf:P.funcs[f]? with
  | none=>simp [hf] at hb
  | some fn =>
    simp only [hf,Bool.and_eq_true,bne_iff_ne,ne_eq] at hb
    obtain ⟨b,hbody⟩:=Option.isSome_iff_exists.1 hb.1
    simp only [callFunc,Sem.run_bind,run_program,Result.andThen_ok,hf]
    have hn : (fn.name == "runtime.NumGoroutine") = false := by simpa using hb.2
    simp only [hn,Bool.false_eq_true,if_false,hbody,Option.isNone_some,Sem.run_pure]
    exact ⟨Rest.refl w,(hc w hw).mono fun e w' ⟨v,h1,h2,h3⟩=>⟨v,h1,tyd_spec h2,h3⟩⟩
theorem scalar_info {t:TypeId} (h:scalar (P.underlying t)=true):(P.info? t).isSome=true:=by
  cases hu:P.underlying t with
  | none=>simp [hu,scalar] at h
  | some d=>obtain ⟨i,hi⟩:=info_of_underlying hu; simp [hi]
theorem evOp_sound {N:Nat}{o:Oper}{ρ:PEnv}{a:Act}{h:Heap} (hf:Fits N ρ a) (hw:w.heap=h) (he:evOp P o ρ h k):OpOK P o a w k:=by
  obtain ⟨dst,op,type,pos,after,guard⟩:=o
  unfold OpOK execOp
  unfold evOp at he
  cases op with
  | move x =>
    simp only at he ⊢
    split at he
    · rename_i v hv; rw [hf.val hv]; exact upto_value (by rw [hw]; exact he)
    · exact he.elim
  | assign x =>
    simp only at he ⊢
    split at he
    · rename_i v hv; rw [hf.val hv]; exact upto_value (by rw [hw]; exact he)
    · exact he.elim
  | alloc e =>
    simp only at he ⊢
    split at he
    · rename_i z hz
      refine upto_v (w':={ w with heap:=w.heap.push (.cells z.cells e) }) (v:=.pointer (some ⟨w.heap.size,0,none⟩)) ?_ ?_ (Rest.push w _)
      · simp [Instr.alloc,run_zeroValue e z hz,newVar,newRow]
      · rw [hw]; exact he
    · exact he.elim
  | box e x =>
    simp only at he ⊢
    split at he
    · rename_i v hv
      rw [hf.val hv]
      refine upto_v (w':={ w with heap:=w.heap.push (.cells v.cells e) }) (v:=.pointer (some ⟨w.heap.size,0,none⟩)) ?_ ?_ (Rest.push w _)
      · simp [Instr.box,newVar,newRow]
      · rw [hw]; exact he
    · exact he.elim
  | build t ps =>
    simp only at he ⊢
    split at he
    · rename_i vs z hk hp hz
      have hps:(ps.map fun x=>(x.1,a.eval x.2)).toList=vs:=by simpa using parts_eval hf hp
      split at he
      · split at he
        · rename_i cs hfs
          refine upto_v (w':=w) (v:=.agg cs.toArray) ?_ (by rw [hw]; exact he) (Rest.refl w)
          exact run_build hk hz (by rw [hps]; simpa using fillS_fill _ _ _ _ hfs)
        · exact he.elim
      · obtain ⟨cs,hfs,he⟩:=he
        refine upto_v (w':=w) (v:=.agg cs.toArray) ?_ (by rw [hw]; exact he) (Rest.refl w)
        exact run_build hk hz (by rw [hps]; exact hfs)
    · exact he.elim
  | buildSlice t len ps =>
    simp only at he ⊢
    split at he
    · rename_i e hu
      split at he
      · rename_i vs z hk hp hz
        have hps:(ps.map fun x=>(x.1,a.eval x.2)).toList=vs:=by simpa using parts_eval hf hp
        have pl:(fun i=>some (i * P.cellsOf e,P.cellsOf e))=places P (P.underlying t):=by rw [hu]; rfl
        split at he
        · rename_i h24 h0
          have h24':=Nat.le_of_ble_eq_true h24
          have h0':len * P.cellsOf e=0:=by simpa using h0
          split at he
          · refine upto_v (w':={ w with heap:=w.heap.push (.cells #[] e) }) (v:=.slice (some ⟨w.heap.size,0,none⟩) len len) ?_ (by rw [hw]; exact he) (Rest.push w _)
            simp only [Instr.buildSlice,Sem.run_bind,run_underlying t _ hu,Result.andThen_ok,run_known hk]
            rw [if_neg (show ¬ len * P.cellsOf e > 2 ^ 24 by omega),if_pos h0']
            have hr:(Array.range 0).map (fun x=>(#[]:Array Value)[x % (#[]:Array Value).size]!)=#[]:=by simp
            simp only [Sem.run_bind,Sem.run_pure,Result.andThen_ok,hps,Instr.fill,newRow,run_newObj,h0',hr]
          · exact he.elim
        · rename_i h24 h0
          have h24':=Nat.le_of_ble_eq_true h24
          have h0':¬ len * P.cellsOf e=0:=by simpa using h0
          have key:∀ cs:List Value,Instr.fill (places P (P.underlying t)) (zrow z.cells.toList len (P.cellsOf e)).toArray vs=some cs.toArray →
              (Instr.buildSlice t len (ps.map fun x=>(x.1,a.eval x.2))).run P w=.ok (.slice (some ⟨w.heap.size,0,none⟩) len len) { w with heap:=w.heap.push (.cells cs.toArray e) }:=by
            intro cs hfs
            simp only [Instr.buildSlice,Sem.run_bind,run_underlying t _ hu,Result.andThen_ok,run_known hk]
            rw [if_neg (show ¬ len * P.cellsOf e > 2 ^ 24 by omega),if_neg h0']
            simp only [Sem.run_bind,run_zeroValue e z hz,Result.andThen_ok,Sem.run_pure,zrow_eq,hps,pl,hfs,newRow,run_newObj]
          split at he
          · split at he
            · rename_i cs hfs
              exact upto_v (key cs (fillS_fill _ _ _ _ hfs)) (by rw [hw]; exact he) (Rest.push w _)
            · exact he.elim
          · obtain ⟨cs,hfs,he⟩:=he
            exact upto_v (key cs hfs) (by rw [hw]; exact he) (Rest.push w _)
        · exact he.elim
      · exact he.elim
    · exact he.elim
  | load t x =>
    simp only at he ⊢
    split at he
    · rename_i p hv
      rw [hf.val hv]
      split at he
      · rename_i hs
        obtain ⟨u,hc,he⟩:=exq_spec he
        refine upto_v (w':=w) (v:=u) ?_ (by rw [hw]; exact he) (Rest.refl w)
        simp only [Instr.loadAt,Instr.sureAddr,Sem.run_bind,Sem.run_pure,Result.andThen_ok,run_loadVar_scalar hs (hw ▸ hc)]
      · split at he
        · rename_i fs hu
          obtain ⟨cs,hc,he⟩:=he
          refine upto_v (w':=w) (v:=.agg cs.toArray) ?_ (by rw [hw]; exact he) (Rest.refl w)
          simp only [Instr.loadAt,Instr.sureAddr,Sem.run_bind,Sem.run_pure,Result.andThen_ok,run_loadVar_agg hu rfl (hw ▸ hc)]
        · rename_i n e hu
          obtain ⟨cs,hc,he⟩:=he
          refine upto_v (w':=w) (v:=.agg cs.toArray) ?_ (by rw [hw]; exact he) (Rest.refl w)
          simp only [Instr.loadAt,Instr.sureAddr,Sem.run_bind,Sem.run_pure,Result.andThen_ok,run_loadVar_agg hu rfl (hw ▸ hc)]
        · exact he.elim
    · exact he.elim
  | store t x y =>
    simp only at he ⊢
    split at he
    · rename_i p v hx hv
      rw [hf.val hx,hf.val hv]
      have go:∀ (h':Heap),(P.info? t).isSome=true→v.cells.size=P.cellsOf t→stC h p 0 v.cells.toList=some h'→k undef h' →
          upto P w k ((do Instr.storeAt t (.pointer (some p)) v; pure Next.skip:Sem Next).run P w):=by
        intro h' hi hsz hst hk
        obtain ⟨w',h1,h2,h3⟩:=run_storeVar (P:=P) (w:=w) hi hsz (hw ▸ hst)
        refine upto_u (w':=w') ?_ (by rw [h2]; exact hk) h3
        simp only [Instr.storeAt,Instr.sureAddr,Sem.run_bind,Sem.run_pure,Result.andThen_ok,h1]
      split at he
      · rename_i hs
        split at he
        · rename_i h1 h2
          obtain ⟨h',hst,he⟩:=he
          have hc:=one_cells h2
          exact go h' (scalar_info hs) (by rw [hc,Nat.eq_of_beq_eq_true h1]; rfl) (by rw [hc]; exact hst) he
        · exact he.elim
      · split at he
        · rename_i fs cs hu
          obtain ⟨hl,h',hst,he⟩:=he
          obtain ⟨i,hi⟩:=info_of_underlying hu
          exact go h' (by simp [hi]) (by simpa [Value.cells] using hl) hst he
        · rename_i n e cs hu
          obtain ⟨hl,h',hst,he⟩:=he
          obtain ⟨i,hi⟩:=info_of_underlying hu
          exact go h' (by simp [hi]) (by simpa [Value.cells] using hl) hst he
        · exact he.elim
    · exact he.elim
  | nilCheck x =>
    simp only at he ⊢
    split at he
    · rename_i p hx
      obtain ⟨q,rfl,he⟩:=he
      rw [hf.val hx]
      exact upto_value (by rw [hw]; exact he)
    · exact he.elim
  | binOp op t x y t' =>
    simp only at he ⊢
    split at he
    · rename_i va vb hx hy
      rw [hf.val hx,hf.val hy]
      obtain ⟨v,w',h1,h2,h3⟩:=bin_sound hw he (fun c hc=>by subst hc; simpa [PEnv.val,eq_comm] using hy)
      exact upto_v h1 h2 h3
    · exact he.elim
  | unOp op t x =>
    simp only at he ⊢
    split at he
    · split at he
      · rename_i b hx
        rw [hf.val hx]
        exact upto_v (w':=w) (v:=.bool (!b)) rfl (by rw [hw]; exact he) (Rest.refl w)
      · exact he.elim
    · split at he
      · rename_i kd n hx
        rw [hf.val hx]
        exact upto_v (w':=w) (v:=.int kd (kd.wrap (0 - n))) rfl (by rw [hw]; exact he) (Rest.refl w)
      · exact he.elim
    · split at he
      · rename_i v hx
        rw [hf.val hx]
        exact upto_gen hw he
      · exact he.elim
  | convert src dst x =>
    simp only at he ⊢
    split at he
    · rename_i v hx
      rw [hf.val hx]
      obtain ⟨v,w',h1,h2,h3⟩:=conv_sound hw he
      exact upto_v h1 h2 h3
    · exact he.elim
  | makeFunc fn first cap =>
    simp only at he ⊢
    split at he
    · rename_i fs cs h1 h2
      have e1:first.map a.eval=fs.toArray:=by rw [mapArr,hf.vals h1]
      have e2:cap.map a.eval=cs.toArray:=by rw [mapArr,hf.vals h2]
      rw [e1,e2]
      exact upto_v (w':=w) rfl (by rw [hw]; exact he) (Rest.refl w)
    · exact he.elim
  | makeMap t r =>
    simp only at he ⊢
    split at he
    · refine upto_v (w':={ w with heap:=w.heap.push (.map #[] 0) }) (v:=.map (some w.heap.size)) ?_ (by rw [hw]; exact he) (Rest.push w _)
      simp [Instr.makeMap]
    · exact he.elim
  | makeSlice t l c =>
    simp only at he ⊢
    split at he
    · rename_i vl vc h1 h2
      rw [hf.val h1,hf.val h2]
      exact upto_gen hw he
    · exact he.elim
  | slice t x lo hi mx =>
    have opt:∀ (y:Option Operand) (u:Option Value),ρ.opt y=some u→y.map a.eval=u:=by
      intro y u hu
      cases y with
      | none=>simpa [PEnv.opt] using hu
      | some z =>
        simp only [PEnv.opt] at hu
        cases hz:ρ.val z with
        | none=>simp [hz] at hu
        | some v=>simp only [hz,Option.some.injEq] at hu; subst hu; simp [hf.val hz]
    simp only at he ⊢
    split at he
    · exact he.elim
    · split at he
      · rename_i v l u hx hl hu
        rw [hf.val hx,opt _ _ hl,opt _ _ hu]
        obtain ⟨v,w',h1,h2,h3⟩:=slice_sound hw he
        exact upto_v h1 h2 h3
      · exact he.elim
  | fieldAddr s x f =>
    simp only at he ⊢
    split at he
    · rename_i fs hu
      split at he
      · rename_i fd p hfd hx
        rw [hf.val hx]
        split at he
        · rename_i hz
          refine upto_v (w':=w) (v:=.pointer (some (p.add fd.offset))) ?_ (by rw [hw]; exact he) (Rest.refl w)
          have hnz:¬ P.cellsOf fd.type=0:=by intro h0; rw [h0] at hz; cases hz
          simp [Instr.fieldAt,run_underlying s _ hu,hfd,Instr.sureAddr,fieldPlace,run_sizeOf' fd.type hz,hnz]
        · exact he.elim
      · exact he.elim
    · exact he.elim
  | field t x f =>
    simp only at he ⊢
    split at he
    · rename_i fs hu
      split at he
      · rename_i fd cs hfd hx
        rw [hf.val hx]
        split at he
        · rename_i hs
          obtain ⟨u,hc,he⟩:=exq_spec he
          refine upto_v (w':=w) (v:=u) ?_ (by rw [hw]; exact he) (Rest.refl w)
          simp [Instr.field,run_underlying t _ hu,hfd,asAgg,run_part_scalar hs hc]
        · split at he
          · rename_i fs' hu'
            refine upto_v (w':=w) ?_ (by rw [hw]; exact he) (Rest.refl w)
            simp [Instr.field,run_underlying t _ hu,hfd,asAgg,run_part_agg hu' rfl]
          · rename_i n e hu'
            refine upto_v (w':=w) ?_ (by rw [hw]; exact he) (Rest.refl w)
            simp [Instr.field,run_underlying t _ hu,hfd,asAgg,run_part_agg hu' rfl]
          · exact he.elim
      · exact he.elim
    · exact he.elim
  | indexAddr t x ix =>
    simp only at he ⊢
    split at he
    · rename_i e p len c kd i hu hx hi
      rw [hf.val hx,hf.val hi]
      split at he
      · rename_i hk
        obtain ⟨q,rfl,h0,h1,he⟩:=he
        refine upto_v (w':=w) (v:=.pointer (some (q.add (i.toNat * P.cellsOf e)))) ?_ (by rw [hw]; exact he) (Rest.refl w)
        simp [Instr.indexAt,asIntOf,run_underlying t _ hu,h0,h1,run_known hk]
      · exact he.elim
    · rename_i n e q kd i hu hx hi
      rw [hf.val hx,hf.val hi]
      split at he
      · rename_i hk
        obtain ⟨h0,h1,he⟩:=he
        refine upto_v (w':=w) (v:=.pointer (some (q.add (i.toNat * P.cellsOf e)))) ?_ (by rw [hw]; exact he) (Rest.refl w)
        simp [Instr.indexAt,asIntOf,run_underlying t _ hu,h0,h1,run_known hk,Instr.sureAddr]
      · exact he.elim
    · exact he.elim
  | index t x ix =>
    simp only at he ⊢
    split at he
    · rename_i s kd i hu hx hi
      rw [hf.val hx,hf.val hi]
      obtain ⟨h0,h1,he⟩:=he
      refine upto_v (w':=w) (v:=.int .u8 (sbyte s i)) ?_ (by rw [hw]; exact he) (Rest.refl w)
      rw [sl_length] at h1
      have hlt:i.toNat<s.size:=by omega
      have hb:s[i.toNat]? = some s[i.toNat]:=by simp [hlt]
      have hs:sbyte s i=s[i.toNat].toNat:=by
        unfold sbyte lb sl
        have hlt':i.toNat<s.data.toList.length:=by simpa using hlt
        rw [List.getD_eq_getElem?_getD,List.getElem?_eq_getElem hlt']
        rfl
      simp only [Instr.index,Sem.run_bind,asIntOf,Sem.run_pure,Result.andThen_ok,run_underlying t _ hu,h0,if_true,hb,hs]
    · rename_i n e cs kd i hu hx hi
      rw [hf.val hx,hf.val hi]
      split at he
      · rename_i hk
        obtain ⟨h0,h1,he⟩:=he
        split at he
        · rename_i hs
          obtain ⟨u,hc,he⟩:=exq_spec he
          refine upto_v (w':=w) (v:=u) ?_ (by rw [hw]; exact he) (Rest.refl w)
          simp [Instr.index,asIntOf,run_underlying t _ hu,h0,h1,run_known hk,run_part_scalar hs hc]
        · split at he
          · rename_i fs' hu'
            refine upto_v (w':=w) ?_ (by rw [hw]; exact he) (Rest.refl w)
            simp [Instr.index,asIntOf,run_underlying t _ hu,h0,h1,run_known hk,run_part_agg hu' rfl]
          · rename_i n e hu'
            refine upto_v (w':=w) ?_ (by rw [hw]; exact he) (Rest.refl w)
            simp [Instr.index,asIntOf,run_underlying t _ hu,h0,h1,run_known hk,run_part_agg hu' rfl]
          · exact he.elim
      · exact he.elim
    · exact he.elim
  | lookup t x ix ok =>
    simp only at he ⊢
    split at he
    · rename_i m v h1 h2
      rw [hf.val h1,hf.val h2]
      exact upto_gen hw he
    · exact he.elim
  | mapUpdate t m x y =>
    simp only at he ⊢
    split at he
    · rename_i vm vx vy h1 h2 h3
      rw [hf.val h1,hf.val h2,hf.val h3]
      exact upto_unit hw he
    · exact he.elim
  | insert t m x y =>
    simp only at he ⊢
    split at he
    · rename_i vm vx vy h1 h2 h3
      rw [hf.val h1,hf.val h2,hf.val h3]
      exact upto_unit hw he
    · exact he.elim
  | mapEntry t m x =>
    simp only at he ⊢
    split at he
    · rename_i vm vx h1 h2
      rw [hf.val h1,hf.val h2]
      exact upto_gen hw he
    · exact he.elim
  | entryStore t m s x =>
    simp only at he ⊢
    split at he
    · rename_i vm vx vy h1 h2 h3
      rw [hf.val h1,hf.val h2,hf.val h3]
      exact upto_unit hw he
    · exact he.elim
  | range t x =>
    simp only at he ⊢
    split at he
    · rename_i v h1
      rw [hf.val h1]
      obtain ⟨v',w',e1,⟨a',e2,e2'⟩,e3⟩:=he w hw
      simp only [Sem.run_bind,e1,Result.andThen_ok,Sem.run_pure]
      exact ⟨by rw [e2]; exact e2',e3⟩
    · exact he.elim
  | next it s =>
    simp only at he ⊢
    split at he
    · rename_i v h1
      rw [hf.val h1]
      obtain ⟨v',w',e1,e2,e3⟩:=he w hw
      simp only [Sem.run_bind,e1,Result.andThen_ok,Sem.run_pure]
      exact ⟨nextD_spec e2,e3⟩
    · exact he.elim
  | entry it =>
    simp only at he ⊢
    split at he
    · rename_i v h1
      rw [hf.val h1]
      exact upto_gen hw he
    · exact he.elim
  | extract x i =>
    simp only at he ⊢
    split at he
    · rename_i vs hx
      rw [hf.val hx]
      split at he
      · rename_i v hi
        refine upto_v (w':=w) (v:=v) ?_ (by rw [hw]; exact he) (Rest.refl w)
        simp only [Instr.extract]
        rw [← Array.getElem?_toList,hi]
        rfl
      · exact he.elim
    · exact he.elim
  | call c =>
    obtain ⟨callee,args,argTypes⟩:=c
    simp only at he ⊢
    split at he
    · rename_i vs hvs
      have hargs:args.map a.eval=vs.toArray:=by rw [mapArr,hf.vals hvs]
      unfold resolve
      simp only [hargs]
      have blt:∀ (b:Builtin) (s:Sem Value) (cs:Array Bool),builtin b argTypes type cs vs.toArray=(do pure (Next.value (← s))) →
          (∃ v w',s.run P w=.ok v w'∧k v w'.heap∧Rest w w') →
          upto P w k ((do let d ← (Pure.pure { target:=.builtin b argTypes type cs,args:=vs.toArray }:Sem Deferred); invoke d.target d.args:Sem Next).run P w):=by
        intro b s cs hb ⟨v,w',h1,h2,h3⟩
        simp only [pure_bind,invoke,hb]
        exact upto_v h1 h2 h3
      split at he
      · rename_i f
        simp only [Act.eval,Deferred.ofValue,pure_bind,invoke]
        have e2:(#[]++vs.toArray++#[]:Array Value)=vs.toArray:=by simp
        rw [e2]
        exact calls_upto hw he
      · rename_i x hnf
        split at he
        · rename_i v hx
          obtain ⟨f,fs,cs,rfl,he⟩:=he
          simp only [hf.val hx,Deferred.ofValue,pure_bind,invoke]
          have e2:(fs++vs.toArray++cs:Array Value)=(fs.toList++vs++cs.toList).toArray:=by simp
          rw [e2]
          exact calls_upto hw he
        · exact he.elim
      · split at he
        · rename_i t v ht
          refine blt .len _ _ rfl ?_
          simp only [Builtin.len_,ht,List.getElem?_toArray,List.getElem?_cons_zero]
          split at he
          · rename_i s hu
            rw [sl_length] at he
            exact ⟨_,w,by simp [run_underlying t _ hu]; rfl,by rw [hw]; exact he,Rest.refl w⟩
          · rename_i e p n c hu
            exact ⟨_,w,by simp [run_underlying t _ hu]; rfl,by rw [hw]; exact he,Rest.refl w⟩
          · rename_i ke e hu
            obtain ⟨v',w',h1,h2,h3⟩:=genH hw he
            refine ⟨v',w',?_,h2,h3⟩
            simpa only [Builtin.len_,ht,List.getElem?_toArray,List.getElem?_cons_zero] using h1
          · rename_i n e hu
            exact ⟨_,w,by simp [run_underlying t _ hu]; rfl,by rw [hw]; exact he,Rest.refl w⟩
          · exact he.elim
        · exact he.elim
      · split at he
        · rename_i t v ht
          refine blt .cap _ _ rfl ?_
          simp only [Builtin.cap_,ht,List.getElem?_toArray,List.getElem?_cons_zero]
          split at he
          · rename_i e p m n hu
            exact ⟨_,w,by simp [run_underlying t _ hu]; rfl,by rw [hw]; exact he,Rest.refl w⟩
          · exact he.elim
        · exact he.elim
      · exact blt .append _ _ rfl (genH hw he)
      · exact blt .copy _ _ rfl (genH hw he)
      · exact blt .delete _ _ rfl (he w hw)
      · exact blt .clear _ _ rfl (he w hw)
      · split at he
        · rename_i ka m kb n
          refine blt .min _ _ rfl ⟨_,w,?_,by rw [hw]; exact he,Rest.refl w⟩
          simp [Builtin.min_,Builtin.min2]
        · exact blt .min _ _ rfl (genH hw he)
      · split at he
        · rename_i ka m kb n
          refine blt .max _ _ rfl ⟨_,w,?_,by rw [hw]; exact he,Rest.refl w⟩
          simp [Builtin.max_,Builtin.max2]
        · exact blt .max _ _ rfl (genH hw he)
      · exact he.elim
    · exact he.elim
  | _=>exact he.elim
end
end Go.Lift
end
section
namespace Go.Lift
def gtmp (ops:Array Oper) (j:Nat):Option Tmp :=
  match ops[j]? with
  | some o=>o.dst
  | none=>none
def decAt:List (Nat × Option Bool)→Nat→Option (Option Bool)
  | [],_=>none
  | p::l,j=>match Nat.beq p.1 j with
    | true=>some p.2
    | false=>decAt l j
def decTmp (ops:Array Oper):List (Nat × Option Bool)→Tmp→Option Bool
  | [],_=>none
  | p::l,t=>match p.2,gtmp ops p.1 with
    | some b,some g=>match Nat.beq g t with
      | true=>some b
      | false=>decTmp ops l t
    | _,_=>decTmp ops l t
abbrev Dec:=List (Nat × Option Bool)
def decPick (i:Nat) (z:Operand) (dec:Dec):Dec :=
  match z with
  | .const (.bool c)=>(i,some c)::dec
  | _=>dec
def evDo (P:Program) (ops:Array Oper) (i:Nat) (dec:Dec) (o:Oper) (ρ:PEnv) (h:Heap) (k:Dec→Value→Heap→Prop):Prop :=
  match o.op with
  | .pick (.tmp t) x y=>match decTmp ops dec t with
    | some b=>match get ρ t,b with
      | some (.bool true),true=>match ρ.val x with
        | some v=>k (decPick i x dec) v h
        | none=>False
      | some (.bool false),false=>match ρ.val y with
        | some v=>k (decPick i y dec) v h
        | none=>False
      | _,_=>False
    | none=>match get ρ t,ρ.val x,ρ.val y with
      | some (.bool b),some u,some v=>(b=true→k dec u h)∧(b=false→k dec v h)
      | _,_,_=>False
  | .move (.tmp t)=>match get ρ t with
    | some v=>match decTmp ops dec t with
      | some b=>k ((i,some b)::dec) v h
      | none=>k dec v h
    | none=>False
  | .entry it=>match ρ.val it with
    | some v=>SemH P (Instr.entry v) (fun u h'=>entryD P (entT ops.toList o.dst 0) (entT ops.toList o.dst 1) u fun z=>k dec z h') h
    | none=>False
  | _=>evOp P o ρ h (k dec)
def evStep (P:Program) (ops:Array Oper) (i:Nat) (dec:Dec) (ρ:PEnv) (h:Heap) (k:Dec→PEnv→Heap→Prop):Prop :=
  match ops[i]? with
  | none=>False
  | some o=>match o.guard with
    | none=>evDo P ops i dec o ρ h fun dec v h'=>k dec (ρ.put o.dst v) h'
    | some (j,want)=>match gtmp ops j with
      | none=>False
      | some g=>match decAt dec j with
        | some (some b)=>match get ρ g,b,want with
          | some (.bool true),true,true=>evDo P ops i dec o ρ h fun dec v h'=>k dec (ρ.put o.dst v) h'
          | some (.bool false),false,false=>evDo P ops i dec o ρ h fun dec v h'=>k dec (ρ.put o.dst v) h'
          | some (.bool true),true,false=>k ((i,none)::dec) (ρ.put o.dst undef) h
          | some (.bool false),false,true=>k ((i,none)::dec) (ρ.put o.dst undef) h
          | _,_,_=>False
        | some none=>match get ρ g with
          | some (.tuple _)=>k ((i,none)::dec) (ρ.put o.dst undef) h
          | _=>False
        | none=>match get ρ g,want with
          | some (.bool b),true =>
            (b=true→evDo P ops i ((j,some true)::dec) o ((g,.bool true)::ρ) h fun dec v h'=>k dec (PEnv.put ((g,.bool true)::ρ) o.dst v) h') ∧
            (b=false→k ((i,none)::(j,some false)::dec) (PEnv.put ((g,.bool false)::ρ) o.dst undef) h)
          | some (.bool b),false =>
            (b=false→evDo P ops i ((j,some false)::dec) o ((g,.bool false)::ρ) h fun dec v h'=>k dec (PEnv.put ((g,.bool false)::ρ) o.dst v) h') ∧
            (b=true→k ((i,none)::(j,some true)::dec) (PEnv.put ((g,.bool true)::ρ) o.dst undef) h)
          | _,_=>False
def evL (P:Program) (ops:Array Oper) (Q:PEnv→Heap→Prop):List Nat→Dec→PEnv→Heap→Prop
  | [],_,ρ,h=>Q ρ h
  | i::l,dec,ρ,h=>evStep P ops i dec ρ h fun dec ρ h=>evL P ops Q l dec ρ h
inductive Tr where
  | nil
  | op (i:Nat) (t:Tr)
  | both (t u:Tr)
def evT (P:Program) (ops:Array Oper) (Q:PEnv→Heap→Prop):Tr→Dec→PEnv→Heap→Prop
  | .nil,_,ρ,h=>Q ρ h
  | .op i t,dec,ρ,h=>evStep P ops i dec ρ h fun dec ρ h=>evT P ops Q t dec ρ h
  | .both t u,dec,ρ,h=>evT P ops Q t dec ρ h∧evT P ops Q u dec ρ h
def evI (P:Program) (ops:Array Oper) (i:Nat) (ρ:PEnv) (h:Heap) (k:Value→Heap→Prop):Prop :=
  match ops[i]? with
  | none=>False
  | some o=>match o.guard with
    | none=>evDo P ops i [] o ρ h fun _ v h'=>k v h'
    | some _=>False
abbrev Dn:=Nat→Bool
def Dn.on (d:Dn) (i:Nat):Dn:=fun j=>match Nat.beq j i with
  | true=>true
  | false=>d j
def aft (o:Oper) (d:Dn):Bool:=o.after.all fun e=>!Region.binds .any e || d e.on
def evPar (P:Program) (ops:Array Oper) (Q:PEnv→Heap→Prop) (ρ:PEnv) (h:Heap):Prop :=
  ∃ Inv:Dn→PEnv→Heap→Prop,Inv (fun _=>false) ρ h ∧
    (∀ d ρ h i o,ops[i]? = some o→d i=false→aft o d=true→Inv d ρ h→∃ ρ',(∀ t v,get ρ' t=some v→get ρ t=some v)∧evI P ops i ρ' h fun v h'=>Inv (d.on i) (ρ.put o.dst v) h') ∧
    ∀ d ρ h,(∀ i o,ops[i]? = some o→d i=false→aft o d=false)→Inv d ρ h→Q ρ h
def dstsOk (N:Nat) (ops:Array Oper):Bool:=ops.toList.all fun o=>match o.dst with
  | some d=>Nat.blt d N
  | none=>true
theorem dstsOk_spec {N:Nat}{ops:Array Oper} (h:dstsOk N ops=true) {i:Nat}{o:Oper} (ho:ops[i]? = some o) (d:Tmp) (hd:o.dst=some d):d<N:=by
  have hm:o∈ops.toList:=by
    rw [← Array.getElem?_toList] at ho
    exact List.mem_of_getElem? ho
  have:=List.all_eq_true.1 h o hm
  simp only [hd] at this
  exact Nat.le_of_ble_eq_true this
section
variable {P:Program}{ops:Array Oper}{Q':Exit→Act→World→Prop}{w0:World}{N:Nat}
theorem Fits.again {ρ:PEnv}{a:Act} (h:Fits N ρ a) {g:Tmp}{v:Value} (hg:get ρ g=some v):Fits N ((g,v)::ρ) a :=
  h.drop fun t u hu=>by
    rw [get_cons] at hu
    split at hu
    · rename_i e; subst e; rw [hg]; exact hu
    · exact hu
theorem upto_mono {k k':Value→Heap→Prop}{w:World}{r:Result Next} (h:upto P w k r) (hk:∀ v h,k v h→k' v h):upto P w k' r:=by
  cases r with
  | halt x w'=>exact h.elim
  | ok n w' =>
    cases n <;> simp only [upto] at h ⊢ <;> first
      | exact ⟨hk _ _ h.1,h.2⟩
      | exact ⟨h.1,h.2.mono fun e w'' ⟨v,he,h1,h2⟩=>⟨v,he,hk _ _ h1,h2⟩⟩
      | exact h.elim
theorem evDo_sound {i:Nat}{dec:Dec}{o:Oper}{ρ:PEnv}{h:Heap}{k:Dec→Value→Heap→Prop}{a:Act}{w:World} (hf:Fits N ρ a) (hw:w.heap=h)
    (he:evDo P ops i dec o ρ h k):OpOK P o a w fun v h'=>∃ dec,k dec v h':=by
  obtain ⟨dst,op,type,pos,after,guard⟩:=o
  unfold evDo at he
  split at he
  · rename_i t x y hop
    simp only at hop
    subst hop
    have pk:∀ (b:Bool) (u v:Value),get ρ t=some (.bool b)→(b=true→ρ.val x=some u)→(b=false→ρ.val y=some v)→(∃ dec,k dec (if b then u else v) h) →
        OpOK P { dst,op:=.pick (.tmp t) x y,type,pos,after,guard } a w fun v h'=>∃ dec,k dec v h':=by
      intro b u v ht hx hy hk
      unfold OpOK execOp
      simp only
      rw [hf.val (x:=.tmp t) (v:=.bool b) ht]
      simp only [asBool,pure_bind]
      cases b with
      | true=>rw [hf.val (hx rfl)]; exact upto_value (by rw [hw]; exact hk)
      | false=>rw [hf.val (hy rfl)]; exact upto_value (by rw [hw]; exact hk)
    split at he
    · split at he
      · rename_i ht hb
        split at he
        · rename_i v hv
          exact pk true v v ht (fun _=>hv) (fun e=>by cases e) ⟨_,he⟩
        · exact he.elim
      · rename_i ht hb
        split at he
        · rename_i v hv
          exact pk false v v ht (fun e=>by cases e) (fun _=>hv) ⟨_,he⟩
        · exact he.elim
      · exact he.elim
    · split at he
      · rename_i b u v ht hx hy
        obtain ⟨h1,h2⟩:=he
        refine pk b u v ht (fun _=>hx) (fun _=>hy) ?_
        cases b with
        | true=>exact ⟨_,h1 rfl⟩
        | false=>exact ⟨_,h2 rfl⟩
      · exact he.elim
  · rename_i t hop
    simp only at hop
    subst hop
    split at he
    · rename_i v hv
      have hk:∃ dec,k dec v h:=by split at he <;> exact ⟨_,he⟩
      unfold OpOK execOp
      simp only
      rw [hf.val (x:=.tmp t) hv]
      exact upto_value (by rw [hw]; exact hk)
    · exact he.elim
  · rename_i it hop
    simp only at hop
    subst hop
    split at he
    · rename_i v hv
      unfold OpOK execOp
      simp only
      rw [hf.val hv]
      obtain ⟨v',w',e1,e2,e3⟩:=he w hw
      simp only [Sem.run_bind,e1,Result.andThen_ok,Sem.run_pure]
      exact ⟨⟨_,entryD_spec e2⟩,e3⟩
    · exact he.elim
  · exact upto_mono (evOp_sound hf hw he) fun _ _ hk=>⟨_,hk⟩
theorem upon_of_upto {o:Oper}{a:Act}{w:World}{k:Value→Heap→Prop}{next:Act→World→Prop} (hr0:Rest w0 w) (h:OpOK P o a w k)
    (hk:∀ v w',k v w'.heap→Rest w0 w'→next (a.put o.dst v) w'):o.wp P a w next Q':=by
  unfold OpOK at h
  unfold Oper.wp
  generalize (execOp a.eval o).run P w=r at h
  cases r with
  | halt x w'=>exact h.elim
  | ok n w' =>
    cases n <;> simp only [upto] at h <;> try exact h.elim
    case value v=>exact hk v w' h.1 (hr0.trans h.2)
    case skip=>exact hk undef w' h.1 (hr0.trans h.2)
    case enter f args =>
      refine h.2.mono fun e w'' ⟨v,he,h1,h2⟩=>?_
      subst he
      exact hk v w'' h1 ((hr0.trans h.1).trans h2)
theorem evStep_sound {i:Nat}{dec:Dec}{ρ:PEnv}{a:Act}{w:World}{k:Dec→PEnv→Heap→Prop}{K:Act→World→Prop}
    (hd:dstsOk N ops=true) (hf:Fits N ρ a) (hr:Rest w0 w) (he:evStep P ops i dec ρ w.heap k)
    (hk:∀ dec ρ a w,Fits N ρ a→Rest w0 w→k dec ρ w.heap→K a w):wpOp P ops Q' i K a w:=by
  unfold evStep at he
  unfold wpOp
  cases ho:ops[i]? with
  | none=>simp only [ho] at he
  | some o =>
    simp only [ho] at he ⊢
    have go:∀ dec ρ,Fits N ρ a→evDo P ops i dec o ρ w.heap (fun dec v h'=>k dec (ρ.put o.dst v) h')→o.wp P a w K Q':=by
      intro dec ρ hf he
      exact upon_of_upto hr (evDo_sound hf rfl he) fun v w' ⟨dec,hv⟩ hr'=>hk dec _ _ w' (hf.put o.dst v (fun d hd'=>dstsOk_spec hd ho d hd')) hr' hv
    have sk:∀ dec ρ,Fits N ρ a→k dec (ρ.put o.dst undef) w.heap→K (a.put o.dst undef) w:=by
      intro dec ρ hf he
      exact hk dec _ _ w (hf.put o.dst undef (fun d hd'=>dstsOk_spec hd ho d hd')) hr he
    split at he
    · rename_i hg
      simp only [Region.wanted,hg,if_true]
      exact .inl (go dec ρ hf he)
    · rename_i j want hg
      split at he
      · exact he.elim
      · rename_i g hgt
        have hy:∀ v,get ρ g=some v→yielded ops a.tmps j=(match v with | .bool b=>some b | _=>none):=by
          intro v hv
          unfold yielded
          unfold gtmp at hgt
          cases hj:ops[j]? with
          | none=>simp [hj] at hgt
          | some oj =>
            simp only [hj] at hgt
            simp [hgt,hf.tmp g v hv]
            cases v <;> rfl
        simp only [Region.wanted,hg]
        split at he
        · split at he
          · rename_i hv _
            rw [hy _ hv]
            exact .inl (go dec ρ hf he)
          · rename_i hv _
            rw [hy _ hv]
            exact .inl (go dec ρ hf he)
          · rename_i hv _
            rw [hy _ hv]
            exact sk _ ρ hf he
          · rename_i hv _
            rw [hy _ hv]
            exact sk _ ρ hf he
          · exact he.elim
        · split at he
          · rename_i hv
            rw [hy _ hv]
            exact sk _ ρ hf he
          · exact he.elim
        · split at he
          · rename_i b hv
            rw [hy _ hv]
            cases b with
            | true=>exact .inl (go _ _ (hf.again hv) (he.1 rfl))
            | false=>exact sk _ _ (hf.again hv) (he.2 rfl)
          · rename_i b hv
            rw [hy _ hv]
            cases b with
            | true=>exact sk _ _ (hf.again hv) (he.2 rfl)
            | false=>exact .inl (go _ _ (hf.again hv) (he.1 rfl))
          · exact he.elim
theorem evL_sound {Q:PEnv→Heap→Prop} (hd:dstsOk N ops=true) (hQ:∀ ρ a w,Q ρ w.heap→Fits N ρ a→Rest w0 w→Q' .normal a w) :
    ∀ (l:List Nat) (dec:Dec) (ρ:PEnv) (a:Act) (w:World),Fits N ρ a→Rest w0 w→evL P ops Q l dec ρ w.heap→wpOps P ops Q' l a w
  | [],dec,ρ,a,w,hf,hr,he=>hQ ρ a w he hf hr
  | i::l,dec,ρ,a,w,hf,hr,he=>by
    rw [wpOps_cons]
    exact evStep_sound hd hf hr he fun dec ρ a w hf hr he=>evL_sound hd hQ l dec ρ a w hf hr he
theorem evI_sound {i:Nat}{o:Oper}{ρ':PEnv}{a:Act}{w:World}{k:Value→Heap→Prop}{K:Act→World→Prop} (ho:ops[i]? = some o)
    (hf:Fits N ρ' a) (hr:Rest w0 w) (he:evI P ops i ρ' w.heap k) (hk:∀ v w',k v w'.heap→Rest w0 w'→K (a.put o.dst v) w'):wpOp P ops Q' i K a w:=by
  unfold evI at he
  unfold wpOp
  simp only [ho] at he ⊢
  split at he
  · rename_i hg
    simp only [Region.wanted,hg,if_true]
    exact .inl (upon_of_upto hr (evDo_sound hf rfl he) fun v w' ⟨_,hv⟩ hr'=>hk v w' hv hr')
  · exact he.elim
theorem countP_lt {p q:Nat→Bool}{i:Nat}:∀ {l:List Nat},i∈l→p i=true→q i=false→(∀ j,q j=true→p j=true)→l.countP q<l.countP p
  | [],hm,_,_,_=>by cases hm
  | x::l,hm,hp,hq,hj=>by
    have hle:∀ l:List Nat,l.countP q≤l.countP p:=fun l=>List.countP_mono_left fun j _ h=>hj j h
    rcases List.mem_cons.1 hm with rfl | hm
    · rw [List.countP_cons_of_pos hp,List.countP_cons_of_neg (by rw [hq]; decide)]
      exact Nat.lt_succ_of_le (hle l)
    · have ih:=countP_lt hm hp hq hj
      rw [List.countP_cons,List.countP_cons]
      cases hqx:q x with
      | true=>rw [hj x hqx]; simpa using ih
      | false=>cases hpx:p x <;> simp <;> omega
theorem par_any {Q:PEnv→Heap→Prop}{Inv:Dn→PEnv→Heap→Prop} (hd:dstsOk N ops=true)
    (step:∀ d ρ h i o,ops[i]? = some o→d i=false→aft o d=true→Inv d ρ h→∃ ρ',(∀ t v,get ρ' t=some v→get ρ t=some v)∧evI P ops i ρ' h fun v h'=>Inv (d.on i) (ρ.put o.dst v) h')
    (fin:∀ d ρ h,(∀ i o,ops[i]? = some o→d i=false→aft o d=false)→Inv d ρ h→Q ρ h)
    (hQ:∀ ρ a w,Q ρ w.heap→Fits N ρ a→Rest w0 w→Q' .normal a w) :
    ∀ (fuel:Nat) (listed:Array Bool) (ρ:PEnv) (a:Act) (w:World),Inv (fun i=>listed.getD i false) ρ w.heap→Fits N ρ a→Rest w0 w→listed.size=ops.size →
      (List.range ops.size).countP (fun j=>!listed.getD j true)≤fuel→wpAny P .any ops Q' fuel listed a w:=by
  intro fuel
  induction fuel with
  | zero =>
    intro listed ρ a w hi hf hr hsz hn
    have hr0:Region.ready .any ops listed=[]:=by
      unfold Region.ready
      rw [List.filter_eq_nil_iff]
      intro j hj hh
      rw [Bool.and_eq_true] at hh
      have:=List.countP_eq_zero.1 (Nat.le_zero.1 hn) j hj
      exact this hh.1
    refine ⟨hr0,hQ ρ a w (fin _ ρ w.heap (fun i o ho hdi=>?_) hi) hf hr⟩
    have hlt:i<ops.size:=(Array.getElem?_eq_some_iff.1 ho).1
    have:=List.countP_eq_zero.1 (Nat.le_zero.1 hn) i (List.mem_range.2 hlt)
    simp only [Array.getD_eq_getD_getElem?,hsz,hlt,Array.getElem?_eq_getElem,Option.getD_some] at this hdi
    rw [hdi] at this
    exact absurd rfl this
  | succ fuel ih =>
    intro listed ρ a w hi hf hr hsz hn
    have inb:∀ i,i<ops.size→listed.getD i true=listed.getD i false:=fun i hlt=>by simp [Array.getD,hsz,hlt]
    refine ⟨fun he=>hQ ρ a w (fin _ ρ w.heap (fun i o ho hdi=>?_) hi) hf hr,fun i hm=>?_⟩
    · have hlt:i<ops.size:=(Array.getElem?_eq_some_iff.1 ho).1
      have hm:i ∉ Region.ready .any ops listed:=by rw [he]; exact List.not_mem_nil
      unfold Region.ready at hm
      rw [List.mem_filter] at hm
      cases hh:aft o (fun i=>listed.getD i false) with
      | false=>rfl
      | true =>
        refine absurd ⟨List.mem_range.2 hlt,?_⟩ hm
        rw [inb i hlt,hdi,ho]
        exact hh
    · unfold Region.ready at hm
      obtain ⟨hm1,hm2⟩:=List.mem_filter.1 hm
      have hlt:=List.mem_range.1 hm1
      rw [Bool.and_eq_true] at hm2
      have ho:ops[i]? = some ops[i]:=Array.getElem?_eq_getElem hlt
      rw [ho] at hm2
      have hdi:listed.getD i false=false:=by
        have:=hm2.1
        rw [inb i hlt] at this
        simpa using this
      have ha:aft ops[i] (fun i=>listed.getD i false)=true:=hm2.2
      obtain ⟨ρ',hs,he⟩:=step (fun i=>listed.getD i false) ρ w.heap i _ ho hdi ha hi
      refine evI_sound ho (hf.drop hs) hr he fun v w' hv hr'=>?_
      refine ih _ _ _ _ ?_ (hf.put _ v fun d hd'=>dstsOk_spec hd ho d hd') hr' (by simp [hsz]) ?_
      · have e:(fun j=>(listed.setIfInBounds i true).getD j false)=Dn.on (fun j=>listed.getD j false) i:=by
          funext j
          unfold Dn.on
          by_cases e:j=i
          · subst e
            simp [Array.getD_eq_getD_getElem?,hsz,hlt]
          · have:Nat.beq j i=false:=by
              cases hb:Nat.beq j i
              · rfl
              · exact absurd (Nat.eq_of_beq_eq_true hb) e
            rw [this]
            simp [Array.getD_eq_getD_getElem?,Ne.symm e]
        rw [e]
        exact hv
      · refine Nat.le_of_lt_succ (Nat.lt_of_lt_of_le (countP_lt (i:=i) (List.mem_range.2 hlt) ?_ ?_ fun j hj=>?_) hn)
        · rw [inb i hlt,hdi]; rfl
        · simp [Array.getD_eq_getD_getElem?,hsz,hlt]
        · by_cases e:j=i
          · subst e; rw [inb j hlt,hdi]; rfl
          · simpa [Array.getD_eq_getD_getElem?,Array.getElem?_setIfInBounds,Ne.symm e] using hj
end
inductive X where
  | normal
  | exit (id:Nat)
  | ret
def X.then (next:PEnv→Heap→Prop) (Q:X→PEnv→Heap→Prop):X→PEnv→Heap→Prop
  | .normal=>next
  | e=>Q e
def X.blk (id:Nat) (Q:X→PEnv→Heap→Prop):X→PEnv→Heap→Prop
  | .exit i=>match Nat.beq i id with
    | true=>Q .normal
    | false=>Q (.exit i)
  | e=>Q e
inductive VT where
  | int (k:IntKind) | bool | str | ptr | addr | slice | map | agg | raw
abbrev VT.T:VT→Type
  | .int _=>Int
  | .bool=>Bool
  | .str=>List UInt8
  | .ptr=>Option Addr
  | .addr=>Addr
  | .slice=>Option Addr × Nat × Nat
  | .map=>Option Nat
  | .agg=>List Value
  | .raw=>Value
def VT.mk:(t:VT)→t.T→Value
  | .int k,n=>.int k n
  | .bool,b=>.bool b
  | .str,s=>.string (mkS s)
  | .ptr,p=>.pointer p
  | .addr,a=>.pointer (some a)
  | .slice,s=>.slice s.1 s.2.1 s.2.2
  | .map,m=>.map m
  | .agg,cs=>.agg cs.toArray
  | .raw,v=>v
def VT.rd:(t:VT)→Value→Option t.T
  | .int k,.int k' n=>if k=k' then some n else none
  | .bool,.bool b=>some b
  | .str,.string s=>some (sl s)
  | .ptr,.pointer p=>some p
  | .addr,.pointer (some a)=>some a
  | .slice,.slice a l c=>some (a,l,c)
  | .map,.map m=>some m
  | .agg,.agg cs=>some cs.toList
  | .raw,v=>some v
  | _,_=>none
theorem VT.rd_spec:∀ {t:VT}{v:Value}{x:t.T},t.rd v=some x→v=t.mk x
  | .int k,.int k' n,x,h=>by
    have h':(if k=k' then some n else none)=some x:=h
    by_cases e:k=k'
    · subst e; rw [if_pos rfl] at h'; cases h'; rfl
    · rw [if_neg e] at h'; cases h'
  | .bool,.bool b,x,h=>by cases h; rfl
  | .str,.string s,x,h=>by cases h; rfl
  | .ptr,.pointer p,x,h=>by cases h; rfl
  | .addr,.pointer (some a),x,h=>by cases h; rfl
  | .slice,.slice a l c,x,h=>by cases h; rfl
  | .map,.map m,x,h=>by cases h; rfl
  | .agg,.agg cs,x,h=>by cases h; rfl
  | .raw,v,x,h=>by cases v <;> (cases h; rfl)
abbrev Live:=List (Nat × VT)
def Tup:Live→Type
  | []=>Unit
  | p::l=>p.2.T × Tup l
def rdL:(l:Live)→PEnv→Option (Tup l)
  | [],_=>some ()
  | p::l,ρ=>match get ρ p.1 with
    | some v=>match p.2.rd v with
      | some x=>match rdL l ρ with
        | some y=>some (x,y)
        | none=>none
      | none=>none
    | none=>none
def mkL:(l:Live)→Tup l→PEnv
  | [],_=>[]
  | p::l,x=>(p.1,p.2.mk x.1)::mkL l x.2
def leaf (l:Live) (j:Tup l→Heap→Prop) (ρ:PEnv) (h:Heap):Prop :=
  match rdL l ρ with
  | some x=>j x h
  | none=>False
theorem rdL_spec:∀ {l:Live}{ρ:PEnv}{x:Tup l},rdL l ρ=some x→∀ t v,get (mkL l x) t=some v→get ρ t=some v
  | [],_,_,_,t,v,hg=>by simp [mkL,get] at hg
  | p::l,ρ,x,h,t,v,hg=>by
    unfold rdL at h
    split at h
    · rename_i u hu
      split at h
      · rename_i y hy
        split at h
        · rename_i z hz
          have hx:(y,z)=x:=Option.some.inj h
          subst hx
          simp only [mkL,get_cons] at hg
          split at hg
          · rename_i e
            subst e
            rw [← hg,hu,VT.rd_spec hy]
          · exact rdL_spec hz t v hg
        · cases h
      · cases h
    · cases h
theorem leaf_spec {l:Live}{j:Tup l→Heap→Prop}{ρ:PEnv}{h:Heap} (hl:leaf l j ρ h):∃ x,j x h∧∀ t v,get (mkL l x) t=some v→get ρ t=some v:=by
  unfold leaf at hl
  split at hl
  · rename_i x hx; exact ⟨x,hl,rdL_spec hx⟩
  · exact hl.elim
inductive Plan where
  | go
  | seq (p q:Plan)
  | cut (l:Live) (j:Tup l→Heap→Prop) (p q:Plan)
  | cond (p q:Plan)
  | block (p:Plan)
  | loop (l:Live) (j:Nat→Tup l→Heap→Prop) (p:Nat→Plan)
  | orders (tr:Tr)
  | par (l:Live)
def ev (P:Program):Code→Plan→(X→PEnv→Heap→Prop)→PEnv→Heap→Prop
  | .skip,_,Q,ρ,h=>Q .normal ρ h
  | .label _,_,Q,ρ,h=>Q .normal ρ h
  | .region _ ops draw,p,Q,ρ,h=>match draw,p with
    | false,_=>evL P ops (Q .normal) (List.range ops.size) [] ρ h
    | true,.orders tr=>evT P ops (Q .normal) tr [] ρ h
    | true,.par l=>match rdL l ρ with
      | some x=>evPar P ops (Q .normal) (mkL l x) h
      | none=>False
    | true,_=>False
  | .seq x y,p,Q,ρ,h=>match p with
    | .cut l j p _=>ev P x p (X.then (leaf l j) Q) ρ h
    | .seq p q=>ev P x p (X.then (ev P y q Q) Q) ρ h
    | _=>ev P x .go (X.then (ev P y .go Q) Q) ρ h
  | .cond c x y,p,Q,ρ,h=>match ρ.val c with
    | some (.bool b)=>match p with
      | .cond p q=>(b=true→ev P x p Q ρ h)∧(b=false→ev P y q Q ρ h)
      | _=>(b=true→ev P x .go Q ρ h)∧(b=false→ev P y .go Q ρ h)
    | _=>False
  | .block id c,p,Q,ρ,h=>match p with
    | .block p=>ev P c p (X.blk id Q) ρ h
    | _=>ev P c .go (X.blk id Q) ρ h
  | .loop _,p,_,ρ,h=>match p with
    | .loop l j _=>match rdL l ρ with
      | some x=>∃ n,j n x h
      | none=>False
    | _=>False
  | .exit id,_,Q,ρ,h=>Q (.exit id) ρ h
  | .ret,_,Q,ρ,h=>Q .ret ρ h
  | _,_,_,_,_=>False
def DrawOK (P:Program) (N:Nat) (ops:Array Oper) (tr:Tr):Prop :=
  ∀ (Q:PEnv→Heap→Prop) (Q':Exit→Act→World→Prop) (w0:World),(∀ c a w,¬ Q' (.panic c) a w)→(∀ a w,¬ Q' .outgrown a w) →
    (∀ ρ a w,Q ρ w.heap→Fits N ρ a→Rest w0 w→Q' .normal a w) →
    ∀ (ρ:PEnv) (a:Act) (w:World),Fits N ρ a→Rest w0 w→evT P ops Q tr [] ρ w.heap→∀ t,wpOps P ops Q' (Region.schedule (P.follows .mixedOrders) ops t) a { w with drawn:=w.drawn+1 }
def parChk (P:Program) (N:Nat) (ops:Array Oper):Bool:=P.follows .mixedOrders && dstsOk N ops
theorem par_ok {P:Program}{N:Nat}{ops:Array Oper} (hc:parChk P N ops=true) {Q:PEnv→Heap→Prop}{Q':Exit→Act→World→Prop}{w0:World} (hq:∀ ρ a w,Q ρ w.heap→Fits N ρ a→Rest w0 w→Q' .normal a w)
    {ρ:PEnv}{a:Act}{w:World} (hf:Fits N ρ a) (hr:Rest w0 w) (he:evPar P ops Q ρ w.heap) (t:Nat):wpOps P ops Q' (Region.schedule (P.follows .mixedOrders) ops t) a { w with drawn:=w.drawn+1 }:=by
  simp only [parChk,Bool.and_eq_true] at hc
  obtain ⟨Inv,h1,h2,h3⟩:=he
  simp only [Region.schedule,hc.1,Bool.true_or,if_true]
  refine wpAny_sound ops.size t _ a _ (par_any hc.2 h2 h3 hq ops.size _ ρ a { w with drawn:=w.drawn+1 } ?_ hf (hr.trans ⟨rfl,rfl,rfl⟩) (by simp) ?_)
  · have e:(fun i=>(Array.replicate ops.size false).getD i false)=fun _=>false:=by
      funext i
      simp only [Array.getD_eq_getD_getElem?,Array.getElem?_replicate]
      split <;> rfl
    rw [e]
    exact h1
  · exact Nat.le_trans List.countP_le_length (by simp)
def obl (P:Program) (N:Nat):Code→Plan→(X→PEnv→Heap→Prop)→Prop
  | .region _ ops draw,p,_=>match draw,p with
    | true,.orders tr=>DrawOK P N ops tr
    | true,.par _=>parChk P N ops=true
    | _,_=>True
  | .seq x y,p,Q=>match p with
    | .cut l j p q=>obl P N x p (X.then (leaf l j) Q)∧(∀ x h,j x h→ev P y q Q (mkL l x) h)∧obl P N y q Q
    | .seq p q=>obl P N x p (X.then (ev P y q Q) Q)∧obl P N y q Q
    | _=>obl P N x .go (X.then (ev P y .go Q) Q)∧obl P N y .go Q
  | .cond _ x y,p,Q=>match p with
    | .cond p q=>obl P N x p Q∧obl P N y q Q
    | _=>obl P N x .go Q∧obl P N y .go Q
  | .block id c,p,Q=>match p with
    | .block p=>obl P N c p (X.blk id Q)
    | _=>obl P N c .go (X.blk id Q)
  | .loop c,p,Q=>match p with
    | .loop l j p=>(∀ x h,¬ j 0 x h)∧(∀ n x h,j (n+1) x h→ev P c (p n) (X.then (leaf l (j n)) Q) (mkL l x) h)∧∀ n,obl P N c (p n) (X.then (leaf l (j n)) Q)
    | _=>True
  | _,_,_=>True
def codeOk (N:Nat):Code→Bool
  | .region _ ops _=>dstsOk N ops
  | .seq x y=>codeOk N x && codeOk N y
  | .cond _ x y=>codeOk N x && codeOk N y
  | .block _ c=>codeOk N c
  | .loop c=>codeOk N c
  | _=>true
def up (N:Nat) (w0:World) (Q:X→PEnv→Heap→Prop):Exit→Act→World→Prop
  | .normal,a,w=>∃ ρ,Q .normal ρ w.heap∧Fits N ρ a∧Rest w0 w
  | .exit id,a,w=>∃ ρ,Q (.exit id) ρ w.heap∧Fits N ρ a∧Rest w0 w
  | .ret,a,w=>∃ ρ,Q .ret ρ w.heap∧Fits N ρ a∧Rest w0 w
  | _,_,_=>False
theorem leaf_fits {N:Nat}{l:Live}{j:Tup l→Heap→Prop}{ρ:PEnv}{h:Heap}{a:Act} (hl:leaf l j ρ h) (hf:Fits N ρ a):∃ x,j x h∧Fits N (mkL l x) a :=
  let ⟨x,hx,hs⟩:=leaf_spec hl; ⟨x,hx,hf.drop hs⟩
theorem sound {P:Program}{N:Nat}{w0:World}:∀ (c:Code) (p:Plan) (Q:X→PEnv→Heap→Prop),codeOk N c=true→obl P N c p Q →
    ∀ (ρ:PEnv) (a:Act) (w:World),ev P c p Q ρ w.heap→Fits N ρ a→Rest w0 w→c.wp P (up N w0 Q) a w:=by
  intro c
  induction c with
  | skip=>intro p Q hc ho ρ a w he hf hr; exact wp_skip ⟨ρ,he,hf,hr⟩
  | label l=>intro p Q hc ho ρ a w he hf hr; exact wp_label ⟨ρ,he,hf,hr⟩
  | exit id=>intro p Q hc ho ρ a w he hf hr; exact wp_exit ⟨ρ,he,hf,hr⟩
  | ret=>intro p Q hc ho ρ a w he hf hr; exact wp_ret ⟨ρ,he,hf,hr⟩
  | region id ops draw =>
    intro p Q hc ho ρ a w he hf hr
    unfold ev at he
    unfold obl at ho
    cases draw with
    | false=>exact wp_region (evL_sound hc (fun ρ a w hq hf hr=>⟨ρ,hq,hf,hr⟩) _ [] ρ a w hf hr he)
    | true =>
      cases p <;> simp only at he ho <;> try exact he.elim
      · exact wp_region_draw (ho _ _ w0 (fun _ _ _ h=>h) (fun _ _ h=>h) (fun ρ a w hq hf hr=>⟨ρ,hq,hf,hr⟩) ρ a w hf hr he)
      · split at he
        · rename_i x hx
          exact wp_region_draw (par_ok ho (fun ρ a w hq hf hr=>⟨ρ,hq,hf,hr⟩) (hf.drop (rdL_spec hx)) hr he)
        · exact he.elim
  | seq x y ihx ihy =>
    intro p Q hc ho ρ a w he hf hr
    unfold ev at he
    unfold obl at ho
    simp only [codeOk,Bool.and_eq_true] at hc
    have plain:∀ (p q:Plan),obl P N x p (X.then (ev P y q Q) Q)∧obl P N y q Q→ev P x p (X.then (ev P y q Q) Q) ρ w.heap→(Code.seq x y).wp P (up N w0 Q) a w:=by
      intro p q ho he
      refine wp_seq (wp_mono (ihx p _ hc.1 ho.1 ρ a w he hf hr) fun e a w hq=>?_)
      cases e with
      | normal=>obtain ⟨ρ,h1,h2,h3⟩:=hq; exact ihy q Q hc.2 ho.2 ρ a w h1 h2 h3
      | exit id=>exact hq
      | ret=>exact hq
      | goto l=>exact hq
      | panic c=>exact hq
      | outgrown=>exact hq
    cases p with
    | cut l j p q =>
      simp only at he ho
      obtain ⟨h1,h2,h3⟩:=ho
      refine wp_seq (wp_mono (ihx p _ hc.1 h1 ρ a w he hf hr) fun e a w hq=>?_)
      cases e with
      | normal =>
        obtain ⟨ρ,hl,hf,hr⟩:=hq
        obtain ⟨x,hx,hf⟩:=leaf_fits hl hf
        exact ihy q Q hc.2 h3 _ a w (h2 x _ hx) hf hr
      | exit id=>exact hq
      | ret=>exact hq
      | goto l=>exact hq
      | panic c=>exact hq
      | outgrown=>exact hq
    | seq p q=>exact plain p q ho he
    | _=>exact plain .go .go ho he
  | cond c x y ihx ihy =>
    intro p Q hc ho ρ a w he hf hr
    unfold ev at he
    unfold obl at ho
    simp only [codeOk,Bool.and_eq_true] at hc
    split at he
    · rename_i b hv
      have plain:∀ (p q:Plan),obl P N x p Q∧obl P N y q Q→(b=true→ev P x p Q ρ w.heap)∧(b=false→ev P y q Q ρ w.heap)→(Code.cond c x y).wp P (up N w0 Q) a w:=by
        intro p q ho he
        exact wp_cond_split (hf.val hv) (fun hb=>ihx p Q hc.1 ho.1 ρ a w (he.1 hb) hf hr) (fun hb=>ihy q Q hc.2 ho.2 ρ a w (he.2 hb) hf hr)
      cases p with
      | cond p q=>exact plain p q ho he
      | _=>exact plain .go .go ho he
    · exact he.elim
  | block id c ih =>
    intro p Q hc ho ρ a w he hf hr
    unfold ev at he
    unfold obl at ho
    have plain:∀ (p:Plan),obl P N c p (X.blk id Q)→ev P c p (X.blk id Q) ρ w.heap→(Code.block id c).wp P (up N w0 Q) a w:=by
      intro p ho he
      refine wp_block (wp_mono (ih p _ hc ho ρ a w he hf hr) fun e a w hq=>?_)
      cases e with
      | normal=>exact hq
      | exit i =>
        obtain ⟨ρ,hq,hf,hr⟩:=hq
        simp only [Exit.inBlock]
        by_cases e:i=id
        · subst e
          simp only [X.blk,Nat.beq_refl] at hq
          simp only [if_true]
          exact ⟨ρ,hq,hf,hr⟩
        · have hb:Nat.beq i id=false:=by
            cases hb:Nat.beq i id
            · rfl
            · exact absurd (Nat.eq_of_beq_eq_true hb) e
          simp only [X.blk,hb] at hq
          simp only [e,if_false]
          exact ⟨ρ,hq,hf,hr⟩
      | ret=>exact hq
      | goto l=>exact hq
      | panic c=>exact hq
      | outgrown=>exact hq
    cases p with
    | block p=>exact plain p ho he
    | _=>exact plain .go ho he
  | loop c ih =>
    intro p Q hc ho ρ a w he hf hr
    unfold ev at he
    unfold obl at ho
    cases p <;> simp only at he ho <;> try exact he.elim
    rename_i l j p
    split at he
    · rename_i x hx
      obtain ⟨n,hj⟩:=he
      have key:∀ (n:Nat) (x:Tup l) (a:Act) (w:World),j n x w.heap→Fits N (mkL l x) a→Rest w0 w→Code.rounds P c (up N w0 Q) n a w:=by
        intro n
        induction n with
        | zero=>intro x a w hj; exact absurd hj (ho.1 x _)
        | succ n ihn =>
          intro x a w hj hf hr
          refine wp_mono (ih (p n) _ hc (ho.2.2 n) _ a w (ho.2.1 n x _ hj) hf hr) fun e a w hq=>?_
          cases e with
          | normal =>
            obtain ⟨ρ,hl,hf,hr⟩:=hq
            obtain ⟨x,hx,hf⟩:=leaf_fits hl hf
            exact ihn x a w hx hf hr
          | exit id=>exact hq
          | ret=>exact hq
          | goto l=>exact hq
          | panic c=>exact hq
          | outgrown=>exact hq
      exact wp_loop_rounds n (key n x a w hj (hf.drop (rdL_spec hx)) hr)
    · exact he.elim
  | _=>intro p Q hc ho ρ a w he hf hr; exact he.elim
def evRet (P:Program) (ρ:PEnv) (h:Heap):List ResultVar→List Value→(List Value→Prop)→Prop
  | [],acc,k=>k acc.reverse
  | .tmp t::rs,acc,k=>match get ρ t with
    | some v=>evRet P ρ h rs (v::acc) k
    | none=>False
  | .cell t ty::rs,acc,k=>match get ρ t with
    | some (.pointer (some a))=>match scalar (P.underlying ty) with
      | true=>exq (P.underlying ty) fun u=>hcell h a=some u∧evRet P ρ h rs (u::acc) k
      | false=>match P.underlying ty with
        | some (.struct _) | some (.array _ _)=>∃ cs:List Value,rdC h a 0 (P.cellsOf ty)=some cs∧evRet P ρ h rs (.agg cs.toArray::acc) k
        | _=>False
    | _=>False
def tuple1:List Value→Value
  | [v]=>v
  | vs=>.tuple vs.toArray
def retQ (P:Program) (rs:List ResultVar) (K:Value→Heap→Prop):X→PEnv→Heap→Prop
  | .normal,ρ,h=>evRet P ρ h rs [] fun vs=>K (tuple1 vs) h
  | .ret,ρ,h=>evRet P ρ h rs [] fun vs=>K (tuple1 vs) h
  | .exit _,_,_=>False
def args0 (i:Nat):List Value→PEnv
  | []=>[]
  | v::vs=>(i,v)::args0 (i+1) vs
def resOf (tmps:Array Value):ResultVar→Sem Value
  | .tmp t=>pure (tmps.getD t undef)
  | .cell a t=>do loadVar t (← asAddr (tmps.getD a undef))
theorem results_eq (fn:Func) (tmps:Array Value):results fn tmps=(do let vs ← fn.results.mapM (resOf tmps); pure (if h:vs.size=1 then vs[0] else .tuple vs)):=rfl
theorem evRet_sound {P:Program}{N:Nat}{ρ:PEnv}{a:Act}{w:World} (hf:Fits N ρ a):∀ (rs:List ResultVar) (acc:List Value) (k:List Value→Prop),evRet P ρ w.heap rs acc k →
    ∃ vs,(rs.mapM (resOf a.tmps)).run P w=.ok vs w∧k (acc.reverse++vs)
  | [],acc,k,h=>⟨[],by simp,by simpa [evRet] using h⟩
  | .tmp t::rs,acc,k,h=>by
    unfold evRet at h
    split at h
    · rename_i v hv
      obtain ⟨vs,h1,h2⟩:=evRet_sound hf rs (v::acc) k h
      refine ⟨v::vs,?_,by simpa using h2⟩
      simp only [List.mapM_cons,resOf,Sem.run_bind,Sem.run_pure,Result.andThen_ok]
      rw [h1]
      simp [hf.tmp t v hv]
    · exact h.elim
  | .cell t ty::rs,acc,k,h=>by
    have fin:∀ (x:Addr) (u:Value),get ρ t=some (.pointer (some x))→(loadVar ty x).run P w=.ok u w→evRet P ρ w.heap rs (u::acc) k →
        ∃ vs,((ResultVar.cell t ty::rs).mapM (resOf a.tmps)).run P w=.ok vs w∧k (acc.reverse++vs):=by
      intro x u hx hl hk
      obtain ⟨vs,h1,h2⟩:=evRet_sound hf rs (u::acc) k hk
      refine ⟨u::vs,?_,by simpa using h2⟩
      have hg:a.tmps.getD t undef=.pointer (some x):=by simp [hf.tmp t _ hx]
      have ha:(asAddr (a.tmps.getD t undef)).run P w=.ok x w:=by rw [hg]; rfl
      simp only [List.mapM_cons,resOf,Sem.run_bind,ha,Sem.run_pure,Result.andThen_ok,hl]
      rw [h1]
      rfl
    unfold evRet at h
    split at h
    · rename_i x hx
      split at h
      · rename_i hs
        obtain ⟨u,hc,h⟩:=exq_spec h
        exact fin x u hx (run_loadVar_scalar hs hc) h
      · split at h
        · rename_i fs hu
          obtain ⟨cs,hc,h⟩:=h
          exact fin x _ hx (run_loadVar_agg hu rfl hc) h
        · rename_i n e hu
          obtain ⟨cs,hc,h⟩:=h
          exact fin x _ hx (run_loadVar_agg hu rfl hc) h
        · exact h.elim
    · exact h.elim
theorem args0_get:∀ (vs:List Value) (i t:Nat) (v:Value),get (args0 i vs) t=some v→i≤t∧vs[t - i]? = some v
  | [],i,t,v,h=>by simp [args0,get] at h
  | u::vs,i,t,v,h=>by
    simp only [args0,get_cons] at h
    split at h
    · rename_i e; subst e; simpa using h
    · rename_i e
      obtain ⟨h1,h2⟩:=args0_get vs (i+1) t v h
      refine ⟨by omega,?_⟩
      have:t - i=(t - (i+1))+1:=by omega
      rw [this,List.getElem?_cons_succ]
      exact h2
theorem calls_of_ev {P:Program}{f:FuncId}{fn:Func}{c:Code} (p:Plan) {args:List Value}{K:Value→Heap→Prop}{h:Heap} (hfn:P.funcs[f]? = some fn) (hb:fn.body=some c)
    (hname : (fn.name != "runtime.NumGoroutine") = true) (hok : codeOk fn.ntmps c = true) (hargs : Nat.ble args.length fn.ntmps = true) (ho : obl P fn.ntmps c p (retQ P fn.results.toList K))
    (he:ev P c p (retQ P fn.results.toList K) (args0 0 args) h):CallsH P f args K h:=by
  refine ⟨by simp [hfn,hb,hname],fun w hw=>?_⟩
  subst hw
  have hlen:=Nat.le_of_ble_eq_true hargs
  have hf:Fits fn.ntmps (args0 0 args) { tmps:=args.toArray++Array.replicate (fn.ntmps - args.toArray.size) undef,defers:=[] }:=by
    refine ⟨by simp; omega,rfl,fun t v hv=>?_⟩
    obtain ⟨-,h2⟩:=args0_get args 0 t v hv
    simp only [Nat.sub_zero] at h2
    have hlt:=(List.getElem?_eq_some_iff.1 h2).1
    rw [Array.getElem?_append_left (by simpa using hlt)]
    simpa using h2
  refine calls_of_wp hfn hb (wp_mono (sound (w0:=w) c p _ hok ho _ _ w he hf (Rest.refl w)) fun e a w' hq=>?_)
  have fin:∀ ρ,(evRet P ρ w'.heap fn.results.toList [] fun vs=>K (tuple1 vs) w'.heap)→Fits fn.ntmps ρ a→Rest w w' →
      a.defers=[]∧∃ v,(results fn a.tmps).run P w'=.ok v w'∧∃ u,Ending.returned v=.returned u∧K u w'.heap∧Rest w w':=by
    intro ρ hq hf hr
    refine ⟨hf.defers,?_⟩
    obtain ⟨vs,h1,h2⟩:=evRet_sound hf _ _ _ hq
    simp only [List.reverse_nil,List.nil_append] at h2
    refine ⟨tuple1 vs,?_,tuple1 vs,rfl,h2,hr⟩
    rw [results_eq]
    have hm:∀ g:ResultVar→Sem Value,(fn.results.mapM g).run P w'=((fn.results.toList.mapM g).run P w').andThen fun l w=>.ok l.toArray w:=by
      intro g
      rw [Array.mapM_eq_mapM_toList]
      simp only [Sem.run_map]
    simp only [Sem.run_bind]
    rw [hm]
    rw [h1]
    simp only [Result.andThen_ok,Sem.run_pure]
    congr 1
    match vs with
    | []=>rfl
    | [v]=>rfl
    | u::v::vs=>simp [tuple1]
  cases e with
  | normal=>obtain ⟨ρ,hq,hf,hr⟩:=hq; exact fin ρ hq hf hr
  | ret=>obtain ⟨ρ,hq,hf,hr⟩:=hq; exact fin ρ hq hf hr
  | exit id=>obtain ⟨ρ,hq,hf,hr⟩:=hq; exact hq.elim
  | goto l=>exact hq.elim
  | panic c=>exact hq.elim
  | outgrown=>exact hq.elim
end Go.Lift
end
section
namespace Go.Lift
def bd {α:Type} (e:α) (F:α→Prop):Prop:=F e
def al (h:Heap) (cells:Array Value) (t:TypeId):Heap:=h.push (.cells cells t)
def top (h:Heap):Addr:=⟨h.size,0,none⟩
def zcl (P:Program) (t:TypeId):Array Value:=match zinfo P t with
  | some z=>z.cells
  | none=>#[]
def bld (P:Program) (t:TypeId) (vs:List (Nat × Value)) (cs:List Value):Prop:=Instr.fill (places P (P.underlying t)) (zcl P t) vs=some cs.toArray
def bldS (P:Program) (t e:TypeId) (len:Nat) (vs:List (Nat × Value)) (cs:List Value):Prop :=
  Instr.fill (places P (P.underlying t)) (zrow (zcl P e).toList len (P.cellsOf e)).toArray vs=some cs.toArray
def eqS (op:BinOp) (t:TypeId) (x y:Operand) (a b:Value):Sem Value:=do eqGuard op t x y a b; Go.binOp op t a b
def bodyOf (fn:Func):Code:=match fn.body with
  | some c=>c
  | none=>.skip
def oblF (P:Program) (N:Nat):Code→Plan→(X→PEnv→Heap→Prop)→Prop→Prop
  | .region _ ops draw,p,_,R=>match draw,p with
    | true,.orders tr=>DrawOK P N ops tr∧R
    | true,.par _=>parChk P N ops=true∧R
    | _,_=>R
  | .seq x y,p,Q,R=>match p with
    | .cut l j p q=>oblF P N x p (X.then (leaf l j) Q) ((∀ x h,j x h→ev P y q Q (mkL l x) h)∧oblF P N y q Q R)
    | .seq p q=>oblF P N x p (X.then (ev P y q Q) Q) (oblF P N y q Q R)
    | _=>oblF P N x .go (X.then (ev P y .go Q) Q) (oblF P N y .go Q R)
  | .cond _ x y,p,Q,R=>match p with
    | .cond p q=>oblF P N x p Q (oblF P N y q Q R)
    | _=>oblF P N x .go Q (oblF P N y .go Q R)
  | .block id c,p,Q,R=>match p with
    | .block p=>oblF P N c p (X.blk id Q) R
    | _=>oblF P N c .go (X.blk id Q) R
  | .loop c,p,Q,R=>match p with
    | .loop l j p=>(∀ x h,¬ j 0 x h)∧(∀ n x h,j (n+1) x h→ev P c (p n) (X.then (leaf l (j n)) Q) (mkL l x) h)∧(∀ n,oblF P N c (p n) (X.then (leaf l (j n)) Q) True)∧R
    | _=>R
  | _,_,_,R=>R
theorem oblF_spec {P:Program}{N:Nat}:∀ (c:Code) (p:Plan) (Q:X→PEnv→Heap→Prop) (R:Prop),oblF P N c p Q R→obl P N c p Q∧R:=by
  intro c
  induction c with
  | region id ops draw =>
    intro p Q R h
    unfold oblF at h
    unfold obl
    cases draw <;> cases p <;> simp only at h ⊢ <;> first | exact ⟨trivial,h⟩ | exact h
  | seq x y ihx ihy =>
    intro p Q R h
    unfold oblF at h
    unfold obl
    cases p with
    | cut l j p q =>
      simp only at h ⊢
      obtain ⟨h1,h2,h3⟩:=ihx _ _ _ h
      obtain ⟨h3,h4⟩:=ihy _ _ _ h3
      exact ⟨⟨h1,h2,h3⟩,h4⟩
    | seq p q=>obtain ⟨h1,h2⟩:=ihx _ _ _ h; obtain ⟨h2,h3⟩:=ihy _ _ _ h2; exact ⟨⟨h1,h2⟩,h3⟩
    | _=>obtain ⟨h1,h2⟩:=ihx _ _ _ h; obtain ⟨h2,h3⟩:=ihy _ _ _ h2; exact ⟨⟨h1,h2⟩,h3⟩
  | cond c x y ihx ihy =>
    intro p Q R h
    unfold oblF at h
    unfold obl
    cases p with
    | cond p q=>obtain ⟨h1,h2⟩:=ihx _ _ _ h; obtain ⟨h2,h3⟩:=ihy _ _ _ h2; exact ⟨⟨h1,h2⟩,h3⟩
    | _=>obtain ⟨h1,h2⟩:=ihx _ _ _ h; obtain ⟨h2,h3⟩:=ihy _ _ _ h2; exact ⟨⟨h1,h2⟩,h3⟩
  | block id c ih =>
    intro p Q R h
    unfold oblF at h
    unfold obl
    cases p with
    | block p=>exact ih _ _ _ h
    | _=>exact ih _ _ _ h
  | loop c ih =>
    intro p Q R h
    unfold oblF at h
    unfold obl
    cases p <;> simp only at h ⊢ <;> try exact ⟨trivial,h⟩
    obtain ⟨h1,h2,h3,h4⟩:=h
    exact ⟨⟨h1,h2,fun n=>(ih _ _ _ (h3 n)).1⟩,h4⟩
  | _=>intro p Q R h; exact ⟨trivial,h⟩
def fitF (fn : Func) (n : Nat) : Bool := fn.body.isSome && (fn.name != "runtime.NumGoroutine") && codeOk fn.ntmps (bodyOf fn) && Nat.ble n fn.ntmps
theorem calls_of_evF {P:Program}{f:FuncId}{fn:Func} (p:Plan) {args:List Value}{K:Value→Heap→Prop}{h:Heap} (hfn:P.funcs[f]? = some fn) (hb:fitF fn args.length=true)
    (ho:oblF P fn.ntmps (bodyOf fn) p (retQ P fn.results.toList K) True) (he:ev P (bodyOf fn) p (retQ P fn.results.toList K) (args0 0 args) h):CallsH P f args K h:=by
  simp only [fitF,Bool.and_eq_true] at hb
  obtain ⟨⟨⟨h1,h2⟩,h3⟩,h4⟩:=hb
  obtain ⟨b,hbody⟩:=Option.isSome_iff_exists.1 h1
  have e:fn.body=some (bodyOf fn):=by simp [bodyOf,hbody]
  exact calls_of_ev p hfn e h2 h3 h4 (oblF_spec _ _ _ _ ho).1 he
end Go.Lift
end
section
namespace Go.Lift
def binPure (P:Program) (t:TypeId) (y:Operand):Bool :=
  match P.underlying t with
  | some (.int _)=>true
  | some .string=>true
  | some .bool=>true
  | some (.slice _)=>match y with
    | .const (.slice none _ _)=>true
    | _=>false
  | some (.map _ _)=>match y with
    | .const (.map none)=>true
    | _=>false
  | some (.pointer _)=>match y with
    | .const (.pointer none)=>true
    | _=>false
  | _=>false
theorem bin_pure {P:Program}{op:BinOp}{t:TypeId}{x y:Operand}{a b:Value}{k:Value→Prop}{g:Prop} (hp:binPure P t y=true)
    (he:evBin P op t x y a b k g) (hy:∀ c,y=.const c→b=c) :
    ∃ v,k v∧∀ w:World,((do eqGuard op t x y a b; Go.binOp op t a b):Sem Value).run P w=.ok v w:=by
  unfold evBin at he
  unfold binPure at hp
  cases hu:P.underlying t with
  | none=>simp [hu] at hp
  | some d =>
    simp only [hu] at he hp
    cases d with
    | int kd =>
      simp only at he
      split at he
      · rename_i ka m kb n
        have hg:∀ w:World,(eqGuard op t x y (.int ka m) (.int kb n)).run P w=.ok () w:=by
          intro w
          unfold eqGuard
          split <;> simp
        cases op <;> simp only at he <;> first
          | (obtain ⟨h0,he⟩:=he
             refine ⟨_,he,fun w=>?_⟩
             simp only [Sem.run_bind,hg,Result.andThen_ok,Go.binOp,Op.shift]
             rw [if_neg (by omega)]
             rfl)
          | (split at he
             · rename_i hk
               subst hk
               first
                 | (obtain ⟨h0,he⟩:=he
                    refine ⟨_,he,fun w=>?_⟩
                    simp only [Sem.run_bind,hg,Result.andThen_ok,Go.binOp,ne_eq,not_true_eq_false,if_false,Op.intDiv,h0]
                    rfl)
                 | (refine ⟨_,he,fun w=>?_⟩
                    simp only [Sem.run_bind,hg,Result.andThen_ok]
                    simp [Go.binOp,Op.intArith,Op.intBits,Op.intCmp,bitsI])
             · exact he.elim)
      · exact he.elim
    | string =>
      simp only at he
      split at he
      · rename_i m n
        have hg:∀ w:World,(eqGuard op t x y (.string m) (.string n)).run P w=.ok () w:=by
          intro w
          unfold eqGuard
          split <;> simp
        cases op <;> simp only at he <;> first
          | exact he.elim
          | (obtain ⟨h0,he⟩:=he
             refine ⟨_,he,fun w=>?_⟩
             simp only [Sem.run_bind,hg,Result.andThen_ok,Go.binOp,Op.stringOp]
             rw [if_neg (by rw [sl_length,sl_length] at h0; exact Int.not_lt.2 (show ((m.size+n.size:Nat):Int)≤IntKind.i64.max from h0)),sl_append]
             rfl)
          | (refine ⟨_,he,fun w=>?_⟩
             simp only [Sem.run_bind,hg,Result.andThen_ok]
             simp [Go.binOp,Op.stringOp,ByteArray.toList_eq,sl])
      · exact he.elim
    | bool =>
      simp only at he
      split at he
      · rename_i m n
        have hg:∀ w:World,(eqGuard op t x y (.bool m) (.bool n)).run P w=.ok () w:=by
          intro w
          unfold eqGuard
          split <;> simp
        have hq:=fun w:World=>eq_bool (w:=w) hu m n
        cases op <;> simp only at he <;> first
          | exact he.elim
          | (refine ⟨_,he,fun w=>?_⟩
             simp only [Sem.run_bind,hg,Go.binOp,hq,Result.andThen_ok,Sem.run_pure])
      · exact he.elim
    | slice e =>
      simp only at he
      split at he
      · rename_i l c
        split at he <;> try exact he.elim
        rename_i p l' c'
        obtain rfl:=hy _ rfl
        have hg:∀ w:World,(eqGuard op t x (.const (.slice none l c)) (.slice p l' c') (.slice none l c)).run P w=.ok () w:=by
          intro w
          unfold eqGuard
          split <;> simp
        have hq:=fun w:World=>eq_slice (w:=w) hu p l c l' c'
        cases op <;> simp only at he <;> first
          | exact he.elim
          | (refine ⟨_,he,fun w=>?_⟩
             simp only [Sem.run_bind,hg,Go.binOp,hq,Result.andThen_ok,Sem.run_pure])
      · split at hp <;> simp_all
    | map ke e =>
      simp only at he
      split at he
      · split at he <;> try exact he.elim
        rename_i p
        obtain rfl:=hy _ rfl
        have hg:∀ w:World,(eqGuard op t x (.const (.map none)) (.map p) (.map none)).run P w=.ok () w:=by
          intro w
          unfold eqGuard
          split <;> simp
        have hq:=fun w:World=>eq_map (w:=w) hu p
        cases op <;> simp only at he <;> first
          | exact he.elim
          | (refine ⟨_,he,fun w=>?_⟩
             simp only [Sem.run_bind,hg,Go.binOp,hq,Result.andThen_ok,Sem.run_pure])
      · split at hp <;> simp_all
    | pointer e =>
      simp only at he
      split at he
      · split at he <;> try exact he.elim
        rename_i p
        obtain rfl:=hy _ rfl
        have hg:∀ w:World,(eqGuard op t x (.const (.pointer none)) (.pointer p) (.pointer none)).run P w=.ok () w:=by
          intro w
          unfold eqGuard
          split <;> simp
        have hq:=fun w:World=>eq_pointer (w:=w) hu p
        cases op <;> simp only at he <;> first
          | exact he.elim
          | (refine ⟨_,he,fun w=>?_⟩
             simp only [Sem.run_bind,hg,Go.binOp,hq,Result.andThen_ok,Sem.run_pure])
      · split at hp <;> simp_all
    | _=>simp at hp
def convPure (P:Program) (src dst:TypeId):Bool :=
  match P.underlying src,P.underlying dst with
  | some (.int _),some (.int _)=>true
  | some .string,some .string=>true
  | _,_=>false
theorem conv_pure {P:Program}{src dst:TypeId}{v:Value}{k:Value→Prop}{g:Prop} (hp:convPure P src dst=true) (he:evConv P src dst v k g) :
    ∃ u,k u∧∀ w:World,(Go.convert src dst v).run P w=.ok u w:=by
  unfold evConv at he
  split at he
  · rename_i h1 h2
    split at he
    · refine ⟨_,he,fun w=>?_⟩
      unfold Go.convert
      simp only [Sem.run_bind,run_underlying _ _ h1,run_underlying _ _ h2,Result.andThen_ok,Conv.intToInt,Sem.run_pure]
    · exact he.elim
  · rename_i h1 h2
    split at he
    · refine ⟨_,he,fun w=>?_⟩
      unfold Go.convert
      simp only [Sem.run_bind,run_underlying _ _ h1,run_underlying _ _ h2,Result.andThen_ok,Sem.run_pure]
    · exact he.elim
  · rename_i h1 h2
    unfold convPure at hp
    split at hp <;> simp_all
def slicePure (P:Program) (t:TypeId):Bool :=
  match P.underlying t with
  | some .string=>true
  | some (.slice _)=>true
  | _=>false
theorem slice_pure {P:Program}{t:TypeId}{v:Value}{lo hi:Option Value}{k:Value→Prop}{g:Prop} (hp:slicePure P t=true) (he:evSlice P t v lo hi k g) :
    ∃ u,k u∧∀ w:World,(Instr.sliceAt t v lo hi none).run P w=.ok u w:=by
  unfold evSlice at he
  split at he
  · rename_i hu
    split at he <;> try exact he.elim
    rename_i s
    have e0:s.extract 0 s.size=s:=by rw [sl_extract]; apply sl_ext; rw [sl_mkS,← sl_length]; simp
    have e1:∀ l,s.extract l s.size=mkS ((sl s).drop l):=fun l=>by rw [sl_extract,← sl_length,List.take_length]
    have e2:∀ h,s.extract 0 h=mkS ((sl s).take h):=fun h=>by rw [sl_extract,List.drop_zero]
    split at he
    · refine ⟨_,he,fun w=>?_⟩
      have hr:(Instr.sliceAt t (.string s) none none none).run P w=.ok (.string (s.extract 0 s.size)) w:=by
        simp [Instr.sliceAt,run_underlying _ _ hu,Instr.slice,Instr.sliceBounds]
      rw [hr,e0]
    · obtain ⟨hl,he⟩:=he
      rw [sl_length] at hl
      refine ⟨_,he,fun w=>?_⟩
      simp [Instr.sliceAt,run_underlying _ _ hu,Instr.slice,Instr.sliceBounds,run_sliceBound hl,e1]
    · obtain ⟨hl,he⟩:=he
      rw [sl_length] at hl
      refine ⟨_,he,fun w=>?_⟩
      simp [Instr.sliceAt,run_underlying _ _ hu,Instr.slice,Instr.sliceBounds,run_sliceBound hl,e2]
    · obtain ⟨hl,hl',he⟩:=he
      rw [sl_length] at hl
      refine ⟨_,he,fun w=>?_⟩
      simp [Instr.sliceAt,run_underlying _ _ hu,Instr.slice,Instr.sliceBounds,run_sliceBound hl,run_sliceBound hl',sl_extract]
    · exact he.elim
  · rename_i e hu
    split at he <;> try exact he.elim
    rename_i a len cap
    split at he
    · rename_i hk
      split at he
      · refine ⟨_,he,fun w=>?_⟩
        simp [Instr.sliceAt,run_underlying _ _ hu,Instr.slice,Instr.sliceBounds,run_known hk,slA]
      · obtain ⟨hl,he⟩:=he
        refine ⟨_,he,fun w=>?_⟩
        simp [Instr.sliceAt,run_underlying _ _ hu,Instr.slice,Instr.sliceBounds,run_sliceBound hl,run_known hk,slA]
      · obtain ⟨hl,he⟩:=he
        refine ⟨_,he,fun w=>?_⟩
        simp [Instr.sliceAt,run_underlying _ _ hu,Instr.slice,Instr.sliceBounds,run_sliceBound hl,run_known hk,slA]
      · obtain ⟨hl,hl',he⟩:=he
        refine ⟨_,he,fun w=>?_⟩
        simp [Instr.sliceAt,run_underlying _ _ hu,Instr.slice,Instr.sliceBounds,run_sliceBound hl,run_sliceBound hl',run_known hk,slA]
      · exact he.elim
    · exact he.elim
  · unfold slicePure at hp
    split at hp <;> simp_all
def isPure (P:Program) (o:Oper):Bool :=
  match o.op with
  | .move _ | .assign _ | .build .. | .field .. | .fieldAddr .. | .indexAddr .. | .index .. | .extract .. | .nilCheck _ | .makeFunc ..=>true
  | .unOp .not _ _=>true
  | .binOp _ t _ y _=>binPure P t y
  | .convert s d _=>convPure P s d
  | .slice t _ _ _ none=>slicePure P t
  | .call { callee:=.builtin .len,argTypes,.. }=>match argTypes[0]? with
    | some t=>match P.underlying t with
      | some .string=>true
      | some (.slice _)=>true
      | some (.array _ _)=>true
      | _=>false
    | none=>false
  | .call { callee:=.builtin .cap,.. }=>true
  | _=>false
theorem run_v {P:Program}{s:Sem Value}{v:Value}{w w':World} (h:s.run P w=.ok v w'):((do pure (Next.value (← s)):Sem Next).run P w)=.ok (.value v) w':=by
  simp only [Sem.run_bind,h,Result.andThen_ok,Sem.run_pure]
theorem evOp_pure {P:Program}{N:Nat}{o:Oper}{ρ:PEnv}{h:Heap}{k:Value→Heap→Prop} (hp:isPure P o=true) (he:evOp P o ρ h k) :
    ∃ v,k v h∧∀ a,Fits N ρ a→∀ w,(execOp a.eval o).run P w=.ok (.value v) w:=by
  obtain ⟨dst,op,type,pos,after,guard⟩:=o
  unfold execOp
  unfold evOp at he
  unfold isPure at hp
  cases op with
  | move x =>
    simp only at he ⊢
    split at he
    · rename_i v hv; exact ⟨v,he,fun a hf w=>by rw [hf.val hv]; rfl⟩
    · exact he.elim
  | assign x =>
    simp only at he ⊢
    split at he
    · rename_i v hv; exact ⟨v,he,fun a hf w=>by rw [hf.val hv]; rfl⟩
    · exact he.elim
  | build t ps =>
    simp only at he ⊢
    split at he
    · rename_i vs z hk hpp hz
      have hps:∀ a,Fits N ρ a→(ps.map fun x=>(x.1,a.eval x.2)).toList=vs:=fun a hf=>by simpa using parts_eval hf hpp
      split at he
      · split at he
        · rename_i cs hfs
          exact ⟨_,he,fun a hf w=>run_v (run_build hk hz (by rw [hps a hf]; simpa using fillS_fill _ _ _ _ hfs))⟩
        · exact he.elim
      · obtain ⟨cs,hfs,he⟩:=he
        exact ⟨_,he,fun a hf w=>run_v (run_build hk hz (by rw [hps a hf]; exact hfs))⟩
    · exact he.elim
  | nilCheck x =>
    simp only at he ⊢
    split at he
    · rename_i p hx
      obtain ⟨q,rfl,he⟩:=he
      exact ⟨_,he,fun a hf w=>by rw [hf.val hx]; rfl⟩
    · exact he.elim
  | binOp op t x y t' =>
    simp only at he ⊢ hp
    split at he
    · rename_i va vb hx hy
      obtain ⟨v,hk,hrun⟩:=bin_pure hp he (fun c hc=>by subst hc; simpa [PEnv.val,eq_comm] using hy)
      exact ⟨v,hk,fun a hf w=>by rw [hf.val hx,hf.val hy]; exact run_v (hrun w)⟩
    · exact he.elim
  | unOp op t x =>
    cases op <;> simp only at hp <;> try cases hp
    simp only at he ⊢
    split at he
    · rename_i b hx
      exact ⟨_,he,fun a hf w=>by rw [hf.val hx]; rfl⟩
    · exact he.elim
  | convert src dst x =>
    simp only at he ⊢ hp
    split at he
    · rename_i v hx
      obtain ⟨v,hk,hrun⟩:=conv_pure hp he
      exact ⟨v,hk,fun a hf w=>by rw [hf.val hx]; exact run_v (hrun w)⟩
    · exact he.elim
  | makeFunc fn first cap =>
    simp only at he ⊢
    split at he
    · rename_i fs cs h1 h2
      refine ⟨_,he,fun a hf w=>?_⟩
      have e1:first.map a.eval=fs.toArray:=by rw [mapArr,hf.vals h1]
      have e2:cap.map a.eval=cs.toArray:=by rw [mapArr,hf.vals h2]
      rw [e1,e2]
      rfl
    · exact he.elim
  | slice t x lo hi mx =>
    cases mx with
    | some m=>simp only at he
    | none =>
      simp only at he ⊢ hp
      split at he
      · rename_i v l u hx hl hu
        obtain ⟨r,hk,hrun⟩:=slice_pure hp he
        refine ⟨r,hk,fun a hf w=>?_⟩
        have opt:∀ (y:Option Operand) (u:Option Value),ρ.opt y=some u→y.map a.eval=u:=by
          intro y u hu
          cases y with
          | none=>simpa [PEnv.opt] using hu
          | some z =>
            simp only [PEnv.opt] at hu
            cases hz:ρ.val z with
            | none=>simp [hz] at hu
            | some v=>simp only [hz,Option.some.injEq] at hu; subst hu; simp [hf.val hz]
        rw [hf.val hx,opt _ _ hl,opt _ _ hu]
        exact run_v (hrun w)
      · exact he.elim
  | fieldAddr s x f =>
    simp only at he ⊢
    split at he
    · rename_i fs hu
      split at he
      · rename_i fd p hfd hx
        split at he
        · rename_i hz
          refine ⟨_,he,fun a hf w=>?_⟩
          rw [hf.val hx]
          have hnz:¬ P.cellsOf fd.type=0:=by intro h0; rw [h0] at hz; cases hz
          apply run_v
          simp [Instr.fieldAt,run_underlying s _ hu,hfd,Instr.sureAddr,fieldPlace,run_sizeOf' fd.type hz,hnz]
        · exact he.elim
      · exact he.elim
    · exact he.elim
  | field t x f =>
    simp only at he ⊢
    split at he
    · rename_i fs hu
      split at he
      · rename_i fd cs hfd hx
        split at he
        · rename_i hs
          obtain ⟨u,hc,he⟩:=exq_spec he
          refine ⟨u,he,fun a hf w=>?_⟩
          rw [hf.val hx]
          apply run_v
          simp [Instr.field,run_underlying t _ hu,hfd,asAgg,run_part_scalar hs hc]
        · split at he
          · rename_i fs' hu'
            refine ⟨_,he,fun a hf w=>?_⟩
            rw [hf.val hx]
            apply run_v
            simp [Instr.field,run_underlying t _ hu,hfd,asAgg,run_part_agg hu' rfl]
          · rename_i n e hu'
            refine ⟨_,he,fun a hf w=>?_⟩
            rw [hf.val hx]
            apply run_v
            simp [Instr.field,run_underlying t _ hu,hfd,asAgg,run_part_agg hu' rfl]
          · exact he.elim
      · exact he.elim
    · exact he.elim
  | indexAddr t x ix =>
    simp only at he ⊢
    split at he
    · rename_i e p len c kd i hu hx hi
      split at he
      · rename_i hk
        obtain ⟨q,rfl,h0,h1,he⟩:=he
        refine ⟨_,he,fun a hf w=>?_⟩
        rw [hf.val hx,hf.val hi]
        apply run_v
        simp [Instr.indexAt,asIntOf,run_underlying t _ hu,h0,h1,run_known hk]
      · exact he.elim
    · rename_i n e q kd i hu hx hi
      split at he
      · rename_i hk
        obtain ⟨h0,h1,he⟩:=he
        refine ⟨_,he,fun a hf w=>?_⟩
        rw [hf.val hx,hf.val hi]
        apply run_v
        simp [Instr.indexAt,asIntOf,run_underlying t _ hu,h0,h1,run_known hk,Instr.sureAddr]
      · exact he.elim
    · exact he.elim
  | index t x ix =>
    simp only at he ⊢
    split at he
    · rename_i s kd i hu hx hi
      obtain ⟨h0,h1,he⟩:=he
      refine ⟨_,he,fun a hf w=>?_⟩
      rw [hf.val hx,hf.val hi]
      apply run_v
      rw [sl_length] at h1
      have hlt:i.toNat<s.size:=by omega
      have hb:s[i.toNat]? = some s[i.toNat]:=by simp [hlt]
      have hs:sbyte s i=s[i.toNat].toNat:=by
        unfold sbyte lb sl
        have hlt':i.toNat<s.data.toList.length:=by simpa using hlt
        rw [List.getD_eq_getElem?_getD,List.getElem?_eq_getElem hlt']
        rfl
      simp only [Instr.index,Sem.run_bind,asIntOf,Sem.run_pure,Result.andThen_ok,run_underlying t _ hu,h0,if_true,hb,hs]
    · rename_i n e cs kd i hu hx hi
      split at he
      · rename_i hk
        obtain ⟨h0,h1,he⟩:=he
        split at he
        · rename_i hs
          obtain ⟨u,hc,he⟩:=exq_spec he
          refine ⟨_,he,fun a hf w=>?_⟩
          rw [hf.val hx,hf.val hi]
          apply run_v
          simp [Instr.index,asIntOf,run_underlying t _ hu,h0,h1,run_known hk,run_part_scalar hs hc]
        · split at he
          · rename_i fs' hu'
            refine ⟨_,he,fun a hf w=>?_⟩
            rw [hf.val hx,hf.val hi]
            apply run_v
            simp [Instr.index,asIntOf,run_underlying t _ hu,h0,h1,run_known hk,run_part_agg hu' rfl]
          · rename_i n e hu'
            refine ⟨_,he,fun a hf w=>?_⟩
            rw [hf.val hx,hf.val hi]
            apply run_v
            simp [Instr.index,asIntOf,run_underlying t _ hu,h0,h1,run_known hk,run_part_agg hu' rfl]
          · exact he.elim
      · exact he.elim
    · exact he.elim
  | extract x i =>
    simp only at he ⊢
    split at he
    · rename_i vs hx
      split at he
      · rename_i v hi
        refine ⟨_,he,fun a hf w=>?_⟩
        rw [hf.val hx]
        apply run_v
        simp only [Instr.extract]
        rw [← Array.getElem?_toList,hi]
        rfl
      · exact he.elim
    · exact he.elim
  | call c =>
    obtain ⟨callee,args,argTypes⟩:=c
    cases callee with
    | value f=>simp only at hp; cases hp
    | invoke r m=>simp only at hp; cases hp
    | builtin b =>
      simp only at he ⊢
      split at he
      · rename_i vs hvs
        have blt:∀ (b:Builtin) (s:Sem Value) (cs:Array Bool) (v:Value) (w:World),builtin b argTypes type cs vs.toArray=(do pure (Next.value (← s)))→s.run P w=.ok v w →
            ((do let d ← (Pure.pure { target:=.builtin b argTypes type cs,args:=vs.toArray }:Sem Deferred); invoke d.target d.args:Sem Next).run P w)=.ok (.value v) w:=by
          intro b s cs v w hb h1
          simp only [pure_bind,invoke,hb]
          exact run_v h1
        have hargs:∀ a,Fits N ρ a→args.map a.eval=vs.toArray:=fun a hf=>by rw [mapArr,hf.vals hvs]
        cases b <;> simp only at hp <;> try cases hp
        · simp only at he
          split at he
          · rename_i t v ht
            split at he
            · rename_i e p m n hu
              refine ⟨_,he,fun a hf w=>?_⟩
              unfold resolve
              simp only [hargs a hf]
              refine blt .cap _ _ _ w rfl ?_
              simp only [Builtin.cap_,ht,List.getElem?_toArray,List.getElem?_cons_zero]
              simp [run_underlying t _ hu,goInt]
            · exact he.elim
          · exact he.elim
        · simp only at he
          split at he
          · rename_i t v ht
            simp only [ht] at hp
            split at he
            · rename_i s hu
              rw [sl_length] at he
              refine ⟨_,he,fun a hf w=>?_⟩
              unfold resolve
              simp only [hargs a hf]
              refine blt .len _ _ _ w rfl ?_
              simp only [Builtin.len_,ht,List.getElem?_toArray,List.getElem?_cons_zero]
              simp [run_underlying t _ hu,goInt]
            · rename_i e p n c hu
              refine ⟨_,he,fun a hf w=>?_⟩
              unfold resolve
              simp only [hargs a hf]
              refine blt .len _ _ _ w rfl ?_
              simp only [Builtin.len_,ht,List.getElem?_toArray,List.getElem?_cons_zero]
              simp [run_underlying t _ hu,goInt]
            · rename_i hu
              simp [hu] at hp
            · rename_i n e hu
              refine ⟨_,he,fun a hf w=>?_⟩
              unfold resolve
              simp only [hargs a hf]
              refine blt .len _ _ _ w rfl ?_
              simp only [Builtin.len_,ht,List.getElem?_toArray,List.getElem?_cons_zero]
              simp [run_underlying t _ hu,goInt]
            · exact he.elim
          · exact he.elim
      · exact he.elim
  | _=>simp only at hp; cases hp
def Tells (P:Program) (N:Nat) (ops:Array Oper) (o:Oper) (h:Heap) (C:World→Prop):Prop :=
  ∀ (i:Nat) (dec:Dec) (ρ:PEnv) (k:Dec→Value→Heap→Prop),evDo P ops i dec o ρ h k→∃ v,(∃ dec,k dec v h)∧∀ a,Fits N ρ a→∀ w,C w→(execOp a.eval o).run P w=.ok (.value v) w
def isPure' (P:Program) (o:Oper):Bool :=
  match o.op with
  | .pick (.tmp _) _ _=>true
  | _=>isPure P o
theorem tells_pure {P:Program}{N:Nat}{ops:Array Oper}{o:Oper}{h:Heap} (hp:isPure' P o=true):Tells P N ops o h fun _=>True:=by
  intro i dec ρ k he
  obtain ⟨dst,op,type,pos,after,guard⟩:=o
  unfold evDo at he
  unfold isPure' at hp
  split at he
  · rename_i t x y hop
    simp only at hop
    subst hop
    have pk:∀ (b:Bool) (u v:Value),get ρ t=some (.bool b)→(b=true→ρ.val x=some u)→(b=false→ρ.val y=some v)→(∃ dec,k dec (if b then u else v) h) →
        ∃ v,(∃ dec,k dec v h)∧∀ a,Fits N ρ a→∀ w,True→(execOp a.eval { dst,op:=.pick (.tmp t) x y,type,pos,after,guard }).run P w=.ok (.value v) w:=by
      intro b u v ht hx hy hk
      refine ⟨_,hk,fun a hf w _=>?_⟩
      unfold execOp
      simp only
      rw [hf.val (x:=.tmp t) (v:=.bool b) ht]
      simp only [asBool,pure_bind]
      cases b with
      | true=>rw [hf.val (hx rfl)]; rfl
      | false=>rw [hf.val (hy rfl)]; rfl
    split at he
    · split at he
      · rename_i ht hb
        split at he
        · rename_i v hv
          exact pk true v v ht (fun _=>hv) (fun e=>by cases e) ⟨_,he⟩
        · exact he.elim
      · rename_i ht hb
        split at he
        · rename_i v hv
          exact pk false v v ht (fun e=>by cases e) (fun _=>hv) ⟨_,he⟩
        · exact he.elim
      · exact he.elim
    · split at he
      · rename_i b u v ht hx hy
        obtain ⟨h1,h2⟩:=he
        refine pk b u v ht (fun _=>hx) (fun _=>hy) ?_
        cases b with
        | true=>exact ⟨_,h1 rfl⟩
        | false=>exact ⟨_,h2 rfl⟩
      · exact he.elim
  · rename_i t hop
    simp only at hop
    subst hop
    split at he
    · rename_i v hv
      have hk:∃ dec,k dec v h:=by split at he <;> exact ⟨_,he⟩
      refine ⟨v,hk,fun a hf w _=>?_⟩
      unfold execOp
      simp only
      rw [hf.val (x:=.tmp t) hv]
      rfl
    · exact he.elim
  · rename_i it hop
    simp only at hop
    subst hop
    simp [isPure] at hp
  · rename_i hn hm he3
    have hp':isPure P { dst,op,type,pos,after,guard }=true:=by
      split at hp
      · rename_i t x y he2; exact absurd he2 (hn t x y)
      · exact hp
    obtain ⟨v,h1,h2⟩:=evOp_pure (N:=N) hp' he
    exact ⟨v,⟨_,h1⟩,fun a hf w _=>h2 a hf w⟩
def isLoad (o:Oper):Bool :=
  match o.op with
  | .load ..=>true
  | _=>false
def Pre (h h':Heap):Prop:=∀ (b:Nat) (o:Obj),h[b]? = some o→h'[b]? = some o
theorem Pre.refl (h:Heap):Pre h h:=fun _ _ e=>e
theorem Pre.trans {a b c:Heap} (h:Pre a b) (k:Pre b c):Pre a c:=fun x o e=>k x o (h x o e)
theorem Pre.push (h:Heap) (o:Obj):Pre h (h.push o):=fun b o' e=>by
  have hlt:b<h.size:=(Array.getElem?_eq_some_iff.1 e).1
  rw [Array.getElem?_push_lt hlt,← e,Array.getElem?_eq_getElem hlt]
theorem Pre.cell {h h':Heap} (k:Pre h h') {a:Addr}{v:Value} (e:hcell h a=some v):hcell h' a=some v:=by
  unfold hcell at e ⊢
  cases hb:h[a.block]? with
  | none=>rw [hb] at e; cases e
  | some o=>rw [hb] at e; rw [k _ _ hb]; exact e
theorem Pre.row {h h':Heap} (k:Pre h h') {a:Addr}:∀ {n i:Nat}{l:List Value},rdC h a i n=some l→rdC h' a i n=some l
  | 0,_,_,e=>e
  | n+1,i,l,e=>by
    unfold rdC at e ⊢
    cases hc:hcell h (a.add i) with
    | none=>rw [hc] at e; cases e
    | some v =>
      rw [hc] at e
      rw [k.cell hc]
      simp only at e ⊢
      cases hr:rdC h a (i+1) n with
      | none=>rw [hr] at e; cases e
      | some t=>rw [hr] at e; rw [k.row hr]; exact e
theorem tells_load {P:Program}{N:Nat}{ops:Array Oper}{o:Oper}{h:Heap} (hp:isLoad o=true):Tells P N ops o h fun w=>Pre h w.heap:=by
  intro i dec ρ k he
  obtain ⟨dst,op,type,pos,after,guard⟩:=o
  unfold isLoad at hp
  cases op <;> simp only at hp <;> try cases hp
  rename_i t x
  simp only [evDo] at he
  unfold evOp at he
  simp only at he
  split at he
  · rename_i p hv
    split at he
    · rename_i hs
      obtain ⟨u,hc,he⟩:=exq_spec he
      refine ⟨u,⟨_,he⟩,fun a hf w hw=>?_⟩
      unfold execOp
      simp only
      rw [hf.val hv]
      apply run_v
      simp only [Instr.loadAt,Instr.sureAddr,Sem.run_bind,Sem.run_pure,Result.andThen_ok,run_loadVar_scalar hs (hw.cell hc)]
    · split at he
      · rename_i fs hu
        obtain ⟨cs,hc,he⟩:=he
        refine ⟨_,⟨_,he⟩,fun a hf w hw=>?_⟩
        unfold execOp
        simp only
        rw [hf.val hv]
        apply run_v
        simp only [Instr.loadAt,Instr.sureAddr,Sem.run_bind,Sem.run_pure,Result.andThen_ok,run_loadVar_agg hu rfl (hw.row hc)]
      · rename_i n e hu
        obtain ⟨cs,hc,he⟩:=he
        refine ⟨_,⟨_,he⟩,fun a hf w hw=>?_⟩
        unfold execOp
        simp only
        rw [hf.val hv]
        apply run_v
        simp only [Instr.loadAt,Instr.sureAddr,Sem.run_bind,Sem.run_pure,Result.andThen_ok,run_loadVar_agg hu rfl (hw.row hc)]
      · exact he.elim
  · exact he.elim
def YieldsC (P:Program) (ops:Array Oper) (o:Oper) (v:Value) (a:Act) (C:World→Prop):Prop :=
  (Region.wanted o (yielded ops a.tmps)=true∧∀ w,C w→(execOp a.eval o).run P w=.ok (.value v) w)∨(Region.wanted o (yielded ops a.tmps)=false∧v=undef)
theorem evStep_tells {P:Program}{N:Nat}{ops:Array Oper}{i:Nat}{o:Oper}{dec:Dec}{ρ:PEnv}{h:Heap}{k:Dec→PEnv→Heap→Prop}{C:World→Prop}
    {a:Act} (ho:ops[i]? = some o) (ht:Tells P N ops o h C) (hd:dstsOk N ops=true) (hf:Fits N ρ a) (he:evStep P ops i dec ρ h k) :
    ∃ v,YieldsC P ops o v a C∧∃ dec' ρ',k dec' ρ' h∧Fits N ρ' (a.put o.dst v):=by
  unfold evStep at he
  simp only [ho] at he
  have go:∀ dec ρ,Region.wanted o (yielded ops a.tmps)=true→Fits N ρ a→evDo P ops i dec o ρ h (fun dec v h'=>k dec (ρ.put o.dst v) h') →
      ∃ v,YieldsC P ops o v a C∧∃ dec' ρ',k dec' ρ' h∧Fits N ρ' (a.put o.dst v):=by
    intro dec ρ hw hf he
    obtain ⟨v,⟨dec,h1⟩,h2⟩:=ht i dec ρ _ he
    exact ⟨v,.inl ⟨hw,h2 a hf⟩,dec,_,h1,hf.put o.dst v (fun d hd'=>dstsOk_spec hd ho d hd')⟩
  have sk:∀ dec ρ,Region.wanted o (yielded ops a.tmps)=false→Fits N ρ a→k dec (ρ.put o.dst undef) h →
      ∃ v,YieldsC P ops o v a C∧∃ dec' ρ',k dec' ρ' h∧Fits N ρ' (a.put o.dst v):=by
    intro dec ρ hw hf he
    exact ⟨undef,.inr ⟨hw,rfl⟩,dec,_,he,hf.put o.dst undef (fun d hd'=>dstsOk_spec hd ho d hd')⟩
  split at he
  · rename_i hg
    exact go dec ρ (by simp [Region.wanted,hg]) hf he
  · rename_i j want hg
    split at he
    · exact he.elim
    · rename_i g hgt
      have hy:∀ v,get ρ g=some v→yielded ops a.tmps j=(match v with | .bool b=>some b | _=>none):=by
        intro v hv
        unfold yielded
        unfold gtmp at hgt
        cases hj:ops[j]? with
        | none=>simp [hj] at hgt
        | some oj =>
          simp only [hj] at hgt
          simp [hgt,hf.tmp g v hv]
          cases v <;> rfl
      have hw:∀ v,get ρ g=some v→Region.wanted o (yielded ops a.tmps)=((match v with | .bool b=>some b | _=>none)==some want):=by
        intro v hv
        simp only [Region.wanted,hg,hy v hv]
      split at he
      · split at he
        · rename_i hv _
          exact go dec ρ (by rw [hw _ hv]; rfl) hf he
        · rename_i hv _
          exact go dec ρ (by rw [hw _ hv]; rfl) hf he
        · rename_i hv _
          exact sk _ ρ (by rw [hw _ hv]; rfl) hf he
        · rename_i hv _
          exact sk _ ρ (by rw [hw _ hv]; rfl) hf he
        · exact he.elim
      · split at he
        · rename_i hv
          exact sk _ ρ (by rw [hw _ hv]; rfl) hf he
        · exact he.elim
      · split at he
        · rename_i b hv
          cases b with
          | true=>exact go _ _ (by rw [hw _ hv]; rfl) (hf.again hv) (he.1 rfl)
          | false=>exact sk _ _ (by rw [hw _ hv]; rfl) (hf.again hv) (he.2 rfl)
        · rename_i b hv
          cases b with
          | true=>exact sk _ _ (by rw [hw _ hv]; rfl) (hf.again hv) (he.2 rfl)
          | false=>exact go _ _ (by rw [hw _ hv]; rfl) (hf.again hv) (he.1 rfl)
        · exact he.elim
def isQuiet (o:Oper):Bool :=
  match o.op with
  | .move _ | .assign _ | .pick .. | .load .. | .fieldAddr .. | .indexAddr .. | .field .. | .index .. | .extract ..=>true
  | .call { callee:=.builtin .len,.. }=>true
  | _=>false
def constInt:Operand→Bool
  | .const (.int _ _)=>true
  | _=>false
def safeBin:BinOp→Bool
  | .and | .shr | .add=>true
  | _=>false
def isGrow (P:Program) (o:Oper):Bool :=
  match o.op with
  | .alloc _ | .buildSlice ..=>true
  | .binOp op _ x y _=>safeBin op && (constInt x || constInt y)
  | .convert src dst _=>(match P.underlying src,P.underlying dst with
    | some (.slice e),some .string=>(match P.underlying e with | some (.int .u8)=>true | _=>false)
    | some (.int _),some (.int _)=>true
    | _,_=>false)
  | _=>false
def isSafe (P:Program) (o:Oper):Bool:=isQuiet o || isGrow P o
def still {α:Type}:Sem α→Prop
  | .pure _=>True
  | .load _ _ k=>∀ v,still (k v)
  | .store ..=>False
  | .new ..=>False
  | .shape _ k=>∀ s,still (k s)
  | .freeze ..=>False
  | .frozen _ k=>∀ b,still (k b)
  | .getObj _ k=>∀ o,still (k o)
  | .setObj ..=>False
  | .choose _ k=>∀ n,still (k n)
  | .sys ..=>False
  | .program k=>∀ p,still (k p)
  | .mark _ k=>still k
  | .halt _=>True
theorem still_run {α:Type}{P:Program} (s:Sem α) (hs:still s):∀ (w:World) (a:α) (w':World),s.run P w=.ok a w'→w'.heap=w.heap:=by
  induction s with
  | pure a=>intro w b w' h; cases h; rfl
  | load m a k ih =>
    intro w b w' h
    simp only [Sem.run] at h
    split at h
    · exact ih _ (hs _) w b w' h
    · split at h
      · exact ih _ (hs _) w b w' h
      · cases h
  | store m a v k ih=>exact hs.elim
  | new o k ih=>exact hs.elim
  | shape r k ih=>intro w b w' h; exact ih _ (hs _) w b w' h
  | freeze a n k ih=>exact hs.elim
  | frozen a k ih=>intro w b w' h; exact ih _ (hs _) w b w' h
  | getObj r k ih =>
    intro w b w' h
    simp only [Sem.run] at h
    split at h
    · cases h
    · exact ih _ (hs _) w b w' h
    · cases h
  | setObj r o k ih=>exact hs.elim
  | choose q k ih =>
    intro w b w' h
    simp only [Sem.run] at h
    split at h
    · exact ih _ (hs _) w b w' h
    · exact ih _ (hs _) { w with drawn:=w.drawn+1 } b w' h
  | sys c k ih=>exact hs.elim
  | program k ih=>intro w b w' h; exact ih _ (hs _) w b w' h
  | mark m k ih=>intro w b w' h; exact ih hs w b w' h
  | halt x=>intro w b w' h; cases h
theorem still_bind {α β:Type} (s:Sem α) (f:α→Sem β) (hs:still s) (hf:∀ a,still (f a)):still (s >>= f):=by
  show still (s.bind f)
  induction s with
  | pure a=>exact hf a
  | load m a k ih=>exact fun v=>ih v (hs v)
  | store m a v k ih=>exact hs.elim
  | new o k ih=>exact hs.elim
  | shape r k ih=>exact fun v=>ih v (hs v)
  | freeze a n k ih=>exact hs.elim
  | frozen a k ih=>exact fun v=>ih v (hs v)
  | getObj r k ih=>exact fun v=>ih v (hs v)
  | setObj r o k ih=>exact hs.elim
  | choose q k ih=>exact fun v=>ih v (hs v)
  | sys c k ih=>exact hs.elim
  | program k ih=>exact fun v=>ih v (hs v)
  | mark m k ih=>exact ih hs
  | halt x=>trivial
section
theorem still_program:still program:=fun _=>trivial
theorem still_load (a:Addr):still (load a):=fun _=>trivial
theorem still_shape (r:Nat):still (shape r):=fun _=>trivial
theorem still_getObj (r:Nat):still (getObj r):=fun _=>trivial
theorem still_choose (q:Question):still (choose q):=fun _=>trivial
theorem still_map {α β:Type} (s:Sem α) (f:α→β) (hs:still s):still (f <$> s):=still_bind s _ hs fun _=>trivial
theorem still_typeInfo (t:TypeId):still (typeInfo t):=still_bind _ _ still_program fun p=>by split <;> trivial
theorem still_underlying (t:TypeId):still (underlying t):=still_bind _ _ still_program fun p=>by split <;> trivial
theorem still_sizeOf (t:TypeId):still (sizeOf t):=still_bind _ _ (still_typeInfo t) fun _=>trivial
theorem still_isAgg (t:TypeId):still (isAgg t):=still_bind _ _ (still_underlying t) fun d=>by split <;> trivial
theorem still_loadCellsFrom (a:Addr):∀ (n i:Nat) (acc:Array Value),still (loadCellsFrom a i n acc)
  | 0,_,_=>trivial
  | n+1,i,_=>still_bind _ _ (still_load _) fun _=>still_loadCellsFrom a n (i+1) _
theorem still_loadVar (t:TypeId) (a:Addr):still (loadVar t a):=by
  refine still_bind _ _ (still_isAgg t) fun b=>?_
  split
  · exact still_bind _ _ (still_sizeOf t) fun n=>still_bind _ _ (still_loadCellsFrom a n 0 _) fun _=>trivial
  · exact still_load a
theorem still_sureAddr (v:Value):still (Instr.sureAddr v):=by unfold Instr.sureAddr; split <;> trivial
theorem still_viewAt (r:Nat):still (viewAt r):=by
  refine still_bind _ _ (still_shape r) fun s=>?_
  split
  · trivial
  · refine still_bind _ _ (still_getObj r) fun o=>?_
    split <;> trivial
theorem still_noView (a:Addr):still (noView a):=still_bind _ _ (still_viewAt _) fun v=>by split <;> trivial
theorem still_byteOf (a:Addr):still (byteOf a):=by
  unfold byteOf
  split
  · trivial
  · refine still_bind _ _ still_program fun p=>still_bind _ _ (still_noView a) fun _=>still_bind _ _ (still_shape _) fun s=>?_
    split
    · dsimp only
      split
      · trivial
      · split <;> trivial
    · trivial
theorem still_fieldPlace (a:Addr) (f:Field):still (fieldPlace a f):=by
  refine still_bind _ _ (still_sizeOf _) fun n=>?_
  split
  · exact still_bind _ _ (still_byteOf _) fun b=>still_bind _ _ (still_byteOf _) fun c=>trivial
  · trivial
theorem still_asIntOf (v:Value):still (asIntOf v):=by unfold asIntOf; split <;> trivial
theorem still_asBool (v:Value):still (asBool v):=by unfold asBool; split <;> trivial
theorem still_asAgg (v:Value):still (asAgg v):=by unfold asAgg; split <;> trivial
theorem still_bounds {α:Type} (k:IntKind) (x y:Int) (c:BoundsCode):still (boundsPanic k x y c:Sem α):=by
  unfold boundsPanic
  dsimp only
  split
  · exact still_bind _ _ (still_map _ _ (still_choose _)) fun _=>still_bind _ _ still_program fun _=>trivial
  · exact still_bind _ _ trivial fun _=>still_bind _ _ still_program fun _=>trivial
theorem still_part (t:TypeId) (cs:Array Value) (off:Nat):still (part t cs off):=by
  refine still_bind _ _ (still_isAgg t) fun b=>?_
  split
  · exact still_bind _ _ (still_sizeOf t) fun n=>trivial
  · split <;> trivial
theorem still_forIn {α β:Type} (f:α→β→Sem (ForInStep β)) (hf:∀ a b,still (f a b)):∀ (l:List α) (b:β),still (forIn l b f)
  | [],b=>by rw [List.forIn_nil]; trivial
  | a::l,b=>by
    rw [List.forIn_cons]
    refine still_bind _ _ (hf a b) fun r=>?_
    cases r with
    | done b=>trivial
    | yield b=>exact still_forIn f hf l b
theorem still_bytesToString (x:Value):still (Conv.bytesToString x):=by
  unfold Conv.bytesToString
  split
  · trivial
  · refine still_bind _ _ (still_loadCellsFrom _ _ _ _) fun cs=>?_
    refine still_bind _ _ ?_ fun s=>trivial
    rw [← Array.forIn_toList]
    refine still_forIn _ (fun a b=>?_) _ _
    split <;> trivial
  · trivial
def grows {α:Type}:Sem α→Prop
  | .pure _=>True
  | .load _ _ k=>∀ v,grows (k v)
  | .store ..=>False
  | .new _ k=>∀ r,grows (k r)
  | .shape _ k=>∀ s,grows (k s)
  | .freeze ..=>False
  | .frozen _ k=>∀ b,grows (k b)
  | .getObj _ k=>∀ o,grows (k o)
  | .setObj ..=>False
  | .choose _ k=>∀ n,grows (k n)
  | .sys ..=>False
  | .program k=>∀ p,grows (k p)
  | .mark _ k=>grows k
  | .halt _=>True
theorem grows_run {α:Type}{P:Program} (s:Sem α) (hs:grows s):∀ (w:World) (a:α) (w':World),s.run P w=.ok a w'→Pre w.heap w'.heap:=by
  induction s with
  | pure a=>intro w b w' h; cases h; exact Pre.refl _
  | load m a k ih =>
    intro w b w' h
    simp only [Sem.run] at h
    split at h
    · exact ih _ (hs _) w b w' h
    · split at h
      · exact ih _ (hs _) w b w' h
      · cases h
  | store m a v k ih=>exact hs.elim
  | new o k ih=>intro w b w' h; exact (Pre.push w.heap o).trans (ih _ (hs _) { w with heap:=w.heap.push o } b w' h)
  | shape r k ih=>intro w b w' h; exact ih _ (hs _) w b w' h
  | freeze a n k ih=>exact hs.elim
  | frozen a k ih=>intro w b w' h; exact ih _ (hs _) w b w' h
  | getObj r k ih =>
    intro w b w' h
    simp only [Sem.run] at h
    split at h
    · cases h
    · exact ih _ (hs _) w b w' h
    · cases h
  | setObj r o k ih=>exact hs.elim
  | choose q k ih =>
    intro w b w' h
    simp only [Sem.run] at h
    split at h
    · exact ih _ (hs _) w b w' h
    · exact ih _ (hs _) { w with drawn:=w.drawn+1 } b w' h
  | sys c k ih=>exact hs.elim
  | program k ih=>intro w b w' h; exact ih _ (hs _) w b w' h
  | mark m k ih=>intro w b w' h; exact ih hs w b w' h
  | halt x=>intro w b w' h; cases h
theorem grows_still {α:Type} (s:Sem α) (hs:still s):grows s:=by
  induction s with
  | pure a=>trivial
  | load m a k ih=>exact fun v=>ih v (hs v)
  | store m a v k ih=>exact hs.elim
  | new o k ih=>exact hs.elim
  | shape r k ih=>exact fun v=>ih v (hs v)
  | freeze a n k ih=>exact hs.elim
  | frozen a k ih=>exact fun v=>ih v (hs v)
  | getObj r k ih=>exact fun v=>ih v (hs v)
  | setObj r o k ih=>exact hs.elim
  | choose q k ih=>exact fun v=>ih v (hs v)
  | sys c k ih=>exact hs.elim
  | program k ih=>exact fun v=>ih v (hs v)
  | mark m k ih=>exact ih hs
  | halt x=>trivial
theorem grows_bind {α β:Type} (s:Sem α) (f:α→Sem β) (hs:grows s) (hf:∀ a,grows (f a)):grows (s >>= f):=by
  show grows (s.bind f)
  induction s with
  | pure a=>exact hf a
  | load m a k ih=>exact fun v=>ih v (hs v)
  | store m a v k ih=>exact hs.elim
  | new o k ih=>exact fun v=>ih v (hs v)
  | shape r k ih=>exact fun v=>ih v (hs v)
  | freeze a n k ih=>exact hs.elim
  | frozen a k ih=>exact fun v=>ih v (hs v)
  | getObj r k ih=>exact fun v=>ih v (hs v)
  | setObj r o k ih=>exact hs.elim
  | choose q k ih=>exact fun v=>ih v (hs v)
  | sys c k ih=>exact hs.elim
  | program k ih=>exact fun v=>ih v (hs v)
  | mark m k ih=>exact ih hs
  | halt x=>trivial
theorem still_zeroValue (t:TypeId):still (zeroValue t):=by
  unfold zeroValue
  refine still_bind _ _ (still_typeInfo t) fun i=>?_
  split <;> trivial
theorem grows_newRow (e:TypeId) (cs:Array Value):grows (newRow e cs):=fun _=>trivial
theorem grows_alloc (e:TypeId):grows (Instr.alloc e true (.tuple #[])):=by
  unfold Instr.alloc
  refine grows_bind _ _ (grows_still _ (still_zeroValue e)) fun z=>?_
  exact grows_bind _ _ (grows_newRow _ _) fun a=>trivial
theorem grows_buildSlice (t:TypeId) (n:Nat) (ps:Array (Nat × Value)):grows (Instr.buildSlice t n ps):=by
  unfold Instr.buildSlice
  refine grows_bind _ _ (grows_still _ (still_underlying t)) fun d=>?_
  split
  · refine grows_bind _ _ (grows_still _ (still_sizeOf _)) fun sz=>?_
    dsimp only
    split
    · trivial
    · split
      · refine grows_bind _ _ trivial fun z=>?_
        split
        · exact grows_bind _ _ (grows_newRow _ _) fun a=>trivial
        · trivial
      · refine grows_bind (zeroValue _) _ (grows_still (zeroValue _) (still_zeroValue _)) fun z=>grows_bind _ _ trivial fun z=>?_
        split
        · exact grows_bind _ _ (grows_newRow _ _) fun a=>trivial
        · trivial
  · trivial
theorem still_error {α:Type} (m:String):still (runtimePanic (.error m):Sem α):=still_bind _ _ still_program fun _=>trivial
theorem still_numberAt (r:Nat):still (numberAt r):=by
  refine still_bind _ _ (still_shape r) fun s=>?_
  split
  · trivial
  · refine still_bind _ _ (still_getObj r) fun o=>?_
    split <;> trivial
theorem still_behind (a:Addr):still (behindNumber a):=still_bind _ _ (still_numberAt _) fun _=>trivial
theorem still_addrMod (k:IntKind) (a:Addr) (n:Int):still (Op.addrMod k a n):=by
  refine still_bind _ _ (still_shape _) fun s=>?_
  split
  · refine still_bind _ _ (still_typeInfo _) fun i=>?_
    dsimp only
    split
    · trivial
    · exact still_bind _ _ (still_byteOf _) fun b=>trivial
  · trivial
theorem still_unsafeAdd (t:TypeId) (x y:Value):still (Builtin.unsafeAdd_ #[] t #[x,y]):=by
  unfold Builtin.unsafeAdd_
  cases x
  case pointer ptr =>
    dsimp only
    refine still_bind _ _ (still_bind _ _ (still_asIntOf _) fun _=>trivial) fun n=>?_
    have tail:still (match ptr with
        | some a=>do
          let q ← shape a.block
          match q with
          | some (e,cells)=>do
            let p ← program
            match cellAtBytes p p.depth e (cells / p.cellsOf e) a.off n with
            | some off=>pure (Value.pointer (some { a with off }))
            | none => unsupported (.unsafePointer "Add")
          | _ => unsupported (.unsafePointer "Add")
        | _ => unsupported (.unsafePointer "Add")) := by
      split
      · refine still_bind _ _ (still_shape _) fun s=>?_
        split
        · refine still_bind _ _ still_program fun p=>?_
          split <;> trivial
        · trivial
      · trivial
    split
    · cases ptr with
      | none=>trivial
      | some a =>
        dsimp only
        refine still_bind _ _ (still_viewAt _) fun v=>?_
        split <;> trivial
    · split
      · trivial
      · exact tail
  all_goals trivial
theorem grows_movedNumber (t:TypeId) (x y:Value):grows (movedNumber t x y):=by
  have h1:∀ n:Addr,grows (do
      let (a,lost) ← behindNumber n
      match ← Builtin.unsafeAdd_ #[] t #[.pointer (some a),y] with
      | .pointer (some b)=>asNumber b lost
      | v=>pure v):=by
    intro n
    refine grows_bind _ _ (grows_still _ (still_behind _)) fun q=>?_
    refine grows_bind _ _ (grows_still _ (still_unsafeAdd _ _ _)) fun v=>?_
    split
    · exact fun _=>trivial
    · trivial
  have h2:grows (match x with
      | .pointer (some n)=>(do
        let (a,lost) ← behindNumber n
        match ← Builtin.unsafeAdd_ #[] t #[.pointer (some a),y] with
        | .pointer (some b)=>asNumber b lost
        | v=>pure v)
      | _=>Builtin.unsafeAdd_ #[] t #[x,y]):=by
    split
    · exact h1 _
    · exact grows_still _ (still_unsafeAdd _ _ _)
  unfold movedNumber
  refine grows_bind _ _ (grows_still _ (still_underlying t)) fun d=>?_
  cases d <;> first | exact h2 | trivial
theorem still_movedPointer (t:TypeId) (x y:Value):still (movedPointer t x y):=by
  unfold movedPointer
  dsimp only
  split
  · refine still_bind _ _ (still_numberAt _) fun n=>?_
    split
    · trivial
    · exact still_unsafeAdd _ _ _
  · exact still_unsafeAdd _ _ _
theorem grows_binL {op:BinOp} (ho:safeBin op=true) (t:TypeId) (k:IntKind) (n:Int) (y:Value):grows (binOp op t (.int k n) y):=by
  cases op <;> simp only [safeBin] at ho <;> try cases ho
  case add =>
    cases y with
    | int k' n'=>unfold binOp; dsimp only; split <;> trivial
    | pointer p=>exact grows_movedNumber _ _ _
    | _=>trivial
  case and =>
    cases y with
    | int k' n'=>unfold binOp; dsimp only; split <;> trivial
    | pointer p =>
      cases p with
      | none=>trivial
      | some a=>exact grows_bind (behindNumber a) _ (grows_still (behindNumber a) (still_behind a)) fun q=>grows_still _ (still_addrMod k q.1 (n+1))
    | _=>trivial
  case shr =>
    cases y with
    | int k' n' =>
      unfold binOp; dsimp only; unfold Op.shift
      split
      · exact grows_still _ (still_error _)
      · trivial
    | pointer p=>cases p <;> trivial
    | _=>trivial
theorem grows_binR {op:BinOp} (ho:safeBin op=true) (t:TypeId) (k:IntKind) (n:Int) (x:Value):grows (binOp op t x (.int k n)):=by
  cases op <;> simp only [safeBin] at ho <;> try cases ho
  case add =>
    cases x with
    | int k' n'=>exact grows_binL rfl t k' n' _
    | pointer p =>
      refine grows_bind (underlying t) _ (grows_still (underlying t) (still_underlying t)) fun d=>?_
      split
      · exact grows_still _ (still_movedPointer _ _ _)
      · exact grows_movedNumber _ _ _
    | _=>trivial
  case and =>
    cases x with
    | int k' n'=>exact grows_binL rfl t k' n' _
    | pointer p =>
      cases p with
      | none=>trivial
      | some a=>exact grows_bind (behindNumber a) _ (grows_still (behindNumber a) (still_behind a)) fun q=>grows_still _ (still_addrMod k q.1 (n+1))
    | _=>trivial
  case shr =>
    cases x with
    | int k' n'=>exact grows_binL rfl t k' n' _
    | pointer p=>cases p <;> trivial
    | _=>trivial
theorem grows_bin {op:BinOp} (ho:safeBin op=true) {x y:Operand} (hc:(constInt x || constInt y)=true) {ρ:Operand→Value} (hρ:∀ c,ρ (.const c)=c) (t:TypeId) :
    grows (do eqGuard op t x y (ρ x) (ρ y); binOp op t (ρ x) (ρ y)):=by
  refine grows_bind _ _ ?_ fun _=>?_
  · cases op <;> simp only [safeBin] at ho <;> try cases ho
    all_goals exact trivial
  · rw [Bool.or_eq_true] at hc
    rcases hc with hc | hc
    · unfold constInt at hc
      split at hc
      · rw [hρ]; exact grows_binL ho _ _ _ _
      · cases hc
    · unfold constInt at hc
      split at hc
      · rw [hρ]; exact grows_binR ho _ _ _ _
      · cases hc
theorem convert_int {P:Program}{src dst:TypeId}{a b:IntKind} (hs:P.underlying src=some (.int a)) (hd:P.underlying dst=some (.int b)) {v u:Value}{w w':World} (h:(convert src dst v).run P w=.ok u w'):w'.heap=w.heap:=by
  unfold convert at h
  simp only [Sem.run_bind,run_underlying src _ hs,run_underlying dst _ hd,Result.andThen_ok] at h
  cases v
  case int k n=>exact still_run (Conv.intToInt b n) trivial w u w' h
  case float k n =>
    refine still_run (Conv.floatToInt k n b) ?_ w u w' h
    unfold Conv.floatToInt
    dsimp only
    split
    · split
      · trivial
      · exact fun _=>trivial
    · exact fun _=>trivial
  case pointer p=>cases p <;> cases h
  all_goals cases h
theorem convert_bytes {P:Program}{src dst e:TypeId} (hs:P.underlying src=some (.slice e)) (hd:P.underlying dst=some .string) (he:P.underlying e=some (.int .u8)) {v u:Value}{w w':World} (h:(convert src dst v).run P w=.ok u w'):w'.heap=w.heap:=by
  unfold convert at h
  simp only [Sem.run_bind,run_underlying src _ hs,run_underlying dst _ hd,Result.andThen_ok] at h
  cases v
  case int k n=>exact still_run (Conv.intToString n) trivial w u w' h
  case string s=>cases h; rfl
  all_goals
    simp only [Sem.run_bind,run_underlying e _ he,Result.andThen_ok] at h
    exact still_run _ (still_bytesToString _) w u w' h
theorem quiet_still {o:Oper} (hq:isQuiet o=true) (ρ:Operand→Value):still (execOp ρ o):=by
  obtain ⟨dst,op,type,pos,after,guard⟩:=o
  unfold isQuiet at hq
  unfold execOp
  cases op <;> simp only at hq ⊢ <;> try cases hq
  case move x=>trivial
  case assign x=>trivial
  case pick c x y=>exact still_bind _ _ (still_asBool _) fun b=>trivial
  case load t x=>exact still_bind _ _ (still_bind _ _ (still_sureAddr _) fun a=>still_loadVar t a) fun v=>trivial
  case fieldAddr s x f =>
    refine still_bind _ _ (still_bind _ _ (still_underlying _) fun d=>?_) fun v=>trivial
    split
    · split
      · exact still_bind _ _ (still_sureAddr _) fun a=>still_bind _ _ (still_fieldPlace _ _) fun p=>trivial
      · trivial
    · trivial
  case field t x f =>
    refine still_bind _ _ (still_bind _ _ (still_underlying _) fun d=>?_) fun v=>trivial
    split
    · split
      · exact still_bind _ _ (still_asAgg _) fun a=>still_part _ _ _
      · trivial
    · trivial
  case indexAddr t x i =>
    refine still_bind _ _ (still_bind _ _ (still_asIntOf _) fun ki=>still_bind _ _ (still_underlying _) fun d=>?_) fun v=>trivial
    have tail:∀ (base:Option Addr) (len:Nat) (elem:TypeId) (m:Sem Value),
        m=(do
          let d ← underlying t
          let tiny:Bool:=decide (len≤1) && (match d with | TypeDesc.array ..=>true | _=>false)
          match base with
          | some a =>
            if 0≤ki.snd∧ki.snd<↑len then do
              let n ← sizeOf elem
              pure (Value.pointer (some (a.add (ki.snd.toNat * n))))
            else if tiny=true then
              unsupported (Unsupported.noEntry "op/indexAddr.an index out of range at an array of length 0 or 1 (ledger 616)")
            else boundsPanic ki.fst ki.snd (↑len) BoundsCode.index
          | none=>boundsPanic ki.fst ki.snd 0 BoundsCode.index)→still m:=by
      intro base len elem m hm
      rw [hm]
      refine still_bind _ _ (still_underlying _) fun d'=>?_
      dsimp only
      generalize (decide (len≤1) && _)=tiny
      cases base with
      | some a =>
        dsimp only
        split
        · exact still_bind _ _ (still_sizeOf _) fun n=>trivial
        · split
          · trivial
          · exact still_bounds _ _ _ _
      | none=>exact still_bounds _ _ _ _
    dsimp only
    split
    · exact still_bind _ _ (still_sureAddr _) fun a=>still_bind _ _ trivial fun q=>tail q.1 q.2.1 q.2.2 _ rfl
    · exact still_bind _ _ trivial fun q=>tail q.1 q.2.1 q.2.2 _ rfl
    · exact still_bind _ _ trivial fun q=>tail q.1 q.2.1 q.2.2 _ rfl
  case index t x i =>
    refine still_bind _ _ (still_bind _ _ (still_asIntOf _) fun ki=>still_bind _ _ (still_underlying _) fun d=>?_) fun v=>trivial
    split
    · split
      · exact still_bind _ _ (still_sizeOf _) fun n=>still_part _ _ _
      · exact still_bounds _ _ _ _
    · split
      · trivial
      · exact still_bounds _ _ _ _
    · trivial
  case extract x i =>
    refine still_bind _ _ ?_ fun v=>trivial
    unfold Instr.extract
    split
    · split <;> trivial
    · trivial
  case call c =>
    obtain ⟨callee,args,argTypes⟩:=c
    cases callee with
    | value f=>simp only at hq; cases hq
    | invoke r m=>simp only at hq; cases hq
    | builtin b =>
      cases b <;> simp only at hq <;> try cases hq
      unfold resolve
      simp only [pure_bind,invoke,builtin]
      refine still_bind _ _ ?_ fun v=>trivial
      unfold Builtin.len_
      split
      · refine still_bind _ _ (still_underlying _) fun d=>?_
        split
        all_goals first
          | trivial
          | (refine still_bind _ _ (still_underlying _) fun d=>?_; split <;> trivial)
          | (refine still_bind _ _ (still_getObj _) fun d=>?_; split <;> trivial)
      · trivial
end
section
variable {P:Program}{ops:Array Oper}{Q:Exit→Act→World→Prop}{md:Region.Mode}
theorem YieldsC.of_same {o:Oper}{v:Value}{a a':Act}{C:World→Prop} (hy:YieldsC P ops o v a C) (he:execOp a'.eval o=execOp a.eval o)
    (hw:Region.wanted o (yielded ops a'.tmps)=Region.wanted o (yielded ops a.tmps)):YieldsC P ops o v a' C:=by
  unfold YieldsC at *
  rw [he,hw]
  exact hy
theorem YieldsC.wpOp {i:Nat}{o:Oper}{v:Value}{a:Act}{C:World→Prop} (hi:ops[i]? = some o) (hy:YieldsC P ops o v a C)
    {K:Act→World→Prop}{w:World} (hc:C w) (h:K (a.put o.dst v) w):wpOp P ops Q i K a w:=by
  unfold Go.wpOp
  simp only [hi]
  rcases hy with ⟨hw,hv⟩ | ⟨hw,rfl⟩
  · simp only [hw,if_true,Oper.wp,hv w hc,Oper.upon]; exact .inl h
  · simp only [hw,Bool.false_eq_true,if_false]; exact h
theorem quiet_value {o:Oper} (hq:isQuiet o=true) {ρ:Operand→Value}{w w':World}{n:Next} (h:(execOp ρ o).run P w=.ok n w'):∃ u,n=.value u:=by
  obtain ⟨dst,op,type,pos,after,guard⟩:=o
  unfold isQuiet at hq
  unfold execOp at h
  have key:∀ (s:Sem Value),(do pure (Next.value (← s)):Sem Next).run P w=.ok n w'→∃ u,n=.value u:=by
    intro s hs
    simp only [Sem.run_bind] at hs
    cases hr:s.run P w with
    | halt x w''=>simp [hr] at hs
    | ok u w''=>simp only [hr,Result.andThen_ok,Sem.run_pure,Result.ok.injEq] at hs; exact ⟨u,hs.1.symm⟩
  cases op <;> simp only at hq h <;> try cases hq
  case move x=>cases h; exact ⟨_,rfl⟩
  case assign x=>cases h; exact ⟨_,rfl⟩
  case pick c x y =>
    simp only [Sem.run_bind] at h
    cases hr:(asBool (ρ c)).run P w with
    | halt x w''=>simp [hr] at h
    | ok u w''=>simp only [hr,Result.andThen_ok,Sem.run_pure,Result.ok.injEq] at h; exact ⟨_,h.1.symm⟩
  case call c =>
    obtain ⟨callee,args,argTypes⟩:=c
    cases callee with
    | value f=>simp only at hq; cases hq
    | invoke r m=>simp only at hq; cases hq
    | builtin b =>
      cases b <;> simp only at hq <;> try cases hq
      unfold resolve at h
      simp only [pure_bind,invoke,builtin] at h
      exact key _ h
  all_goals exact key _ h
theorem safe_value {o:Oper} (hq:isSafe P o=true) {ρ:Operand→Value} (hρ:∀ c,ρ (.const c)=c) {w w':World}{n:Next} (h:(execOp ρ o).run P w=.ok n w'):Pre w.heap w'.heap∧∃ u,n=.value u:=by
  unfold isSafe at hq
  rw [Bool.or_eq_true] at hq
  rcases hq with hq | hq
  · exact ⟨by rw [still_run _ (quiet_still hq ρ) w _ w' h]; exact Pre.refl _,quiet_value hq h⟩
  · obtain ⟨dst,op,type,pos,after,guard⟩:=o
    unfold isGrow at hq
    unfold execOp at h
    have key:∀ (s:Sem Value),(∀ u w',s.run P w=.ok u w'→Pre w.heap w'.heap)→(do pure (Next.value (← s)):Sem Next).run P w=.ok n w'→Pre w.heap w'.heap∧∃ u,n=.value u:=by
      intro s hg hs
      simp only [Sem.run_bind] at hs
      cases hr:s.run P w with
      | halt x w''=>simp [hr] at hs
      | ok u w'' =>
        simp only [hr,Result.andThen_ok,Sem.run_pure,Result.ok.injEq] at hs
        exact ⟨by rw [← hs.2]; exact hg u w'' hr,u,hs.1.symm⟩
    cases op <;> simp only at hq h
    all_goals try (cases hq; done)
    case alloc e=>exact key _ (fun u w' hr=>grows_run _ (grows_alloc e) w u w' hr) h
    case buildSlice t n ps=>exact key _ (fun u w' hr=>grows_run _ (grows_buildSlice t n _) w u w' hr) h
    case binOp op t x y t' =>
      rw [Bool.and_eq_true] at hq
      exact key _ (fun u w' hr=>grows_run _ (grows_bin hq.1 hq.2 hρ t) w u w' hr) h
    case convert src dst x =>
      refine key _ (fun u w' hr=>?_) h
      split at hq
      · rename_i e hs hd
        split at hq
        · rename_i he
          rw [convert_bytes hs hd he hr]; exact Pre.refl _
        · cases hq
      · rename_i hs hd
        rw [convert_int hs hd hr]; exact Pre.refl _
      · cases hq
theorem wpOp_putR {j:Nat}{oi oj:Oper}{v:Value}{h0:Heap} (hj:ops[j]? = some oj) (hap:oi.apart ops oj=true) (hq:isSafe P oj=true)
    (hsi:∀ cs b,oi.op≠.select cs b) (hsj:∀ cs b,oj.op≠.select cs b)
    (hQ:∀ c a w,¬ Q (.panic c) a w) (hQo:∀ a w,¬ Q .outgrown a w) {K:Act→World→Prop}{a:Act}{w:World} (hw:Pre h0 w.heap)
    (hy:YieldsC P ops oi v a fun w=>Pre h0 w.heap) (h:wpOp P ops Q j K (a.put oi.dst v) w) :
    wpOp P ops Q j (fun a' w'=>Pre h0 w'.heap∧(YieldsC P ops oi v a' fun w=>Pre h0 w.heap)∧K (a'.put oi.dst v) w') a w:=by
  obtain ⟨h1,h2,h3⟩:=Oper.apart_spec hap
  have keep:∀ (a:Act),(YieldsC P ops oi v a fun w=>Pre h0 w.heap)→∀ u,YieldsC P ops oi v (a.put oj.dst u) fun w=>Pre h0 w.heap:=fun a hy u =>
    hy.of_same (execOp_put oi hsi a oj.dst u h3) (wanted_put oi a oj.dst u h3)
  unfold wpOp at *
  simp only [hj] at *
  rw [wanted_put oj a oi.dst v h1] at h
  split
  · rename_i hwt
    simp only [hwt,if_true] at h
    rcases h with h | ⟨_,x,y,hlets⟩
    case inr=>exact (hQo _ _ hlets).elim
    refine .inl ?_
    unfold Oper.wp at *
    rw [execOp_put oj hsj a oi.dst v h1] at h
    cases hr:(execOp a.eval oj).run P w with
    | ok n w' =>
      obtain ⟨hg,u,rfl⟩:=safe_value hq (fun c=>rfl) hr
      have hh:Pre h0 w'.heap:=hw.trans hg
      rw [hr] at h
      simp only [Oper.upon] at h ⊢
      exact ⟨hh,keep a hy u,by rw [← Act.put_comm a v u h2]; exact h⟩
    | halt x w' =>
      rw [hr] at h
      cases x <;> simp only [Oper.upon] at h
      case panic u=>exact (hQ _ _ _ h).elim
  · rename_i hwt
    simp only [hwt] at h
    exact ⟨hw,keep a hy _,by rw [← Act.put_comm a v undef h2]; exact h⟩
theorem wpAny_read {i:Nat}{oi:Oper}{v:Value}{h0:Heap}{D:Nat→Bool} (hi:ops[i]? = some oi) (hsel:∀ (j:Nat) (o:Oper) cs b,ops[j]? = some o→o.op≠.select cs b)
    (hD:∀ j oj,ops[j]? = some oj→D j=true→∃ e∈oj.after,Region.binds md e=true∧(e.on=i∨D e.on=true))
    (hQ:∀ c a w,¬ Q (.panic c) a w) (hQo:∀ a w,¬ Q .outgrown a w) :
    ∀ (fuel:Nat) (listed:Array Bool) (a:Act) (w:World),Pre h0 w.heap →
      (∀ j oj,ops[j]? = some oj→j≠i→D j=false→listed.getD j true=false→oi.apart ops oj=true∧isSafe P oj=true) →
      (∀ j,D j=true→listed.getD j false=false) →
      i∈Region.ready md ops listed→(YieldsC P ops oi v a fun w=>Pre h0 w.heap) →
      wpAny P md ops Q fuel (listed.setIfInBounds i true) (a.put oi.dst v) w→wpAny P md ops Q (fuel+1) listed a w:=by
  intro fuel
  induction fuel with
  | zero =>
    intro listed a w hw _ _ hr hy H
    refine ⟨fun h=>(by rw [h] at hr; cases hr),fun j hj=>?_⟩
    by_cases hji:j=i
    · subst hji; exact hy.wpOp hi hw H
    · have:=ready_mono hj hji
      rw [H.1] at this
      cases this
  | succ fuel ih =>
    intro listed a w hw hfree hdep hr hy H
    refine ⟨fun h=>(by rw [h] at hr; cases hr),fun j hj=>?_⟩
    by_cases hji:j=i
    · subst hji; exact hy.wpOp hi hw H
    · have h1:=H.2 j (ready_mono hj hji)
      obtain ⟨hjun,oj,hoj,hall⟩:=mem_ready.1 hj
      have hDj:D j=false:=by
        cases hd:D j with
        | false=>rfl
        | true =>
          obtain ⟨e,he,hb,hon⟩:=hD j oj hoj hd
          have h1:=hall e he hb
          rcases hon with hon | hon
          · have h0:=(mem_ready.1 hr).1
            rw [hon] at h1
            rcases Nat.lt_or_ge i listed.size with h' | h'
            · simp [h'] at h0 h1; rw [h0] at h1; cases h1
            · simp [Array.getElem?_eq_none h'] at h1
          · rw [hdep _ hon] at h1; cases h1
      obtain ⟨hap,hq⟩:=hfree j oj hoj hji hDj hjun
      have h2:=wpOp_putR hoj hap hq (fun cs b=>hsel i oi cs b hi) (fun cs b=>hsel j oj cs b hoj) hQ hQo hw hy h1
      refine wpOp_mono (fun a' w' h3=>ih (listed.setIfInBounds j true) a' w' h3.1 ?_ ?_ (ready_mono hr (Ne.symm hji)) h3.2.1 ?_) h2
      · intro k ok hk hki hDk hun
        refine hfree k ok hk hki hDk ?_
        by_cases hjk:j=k
        · subst hjk; exact hjun
        · rw [getD_set_ne true hjk] at hun; exact hun
      · intro k hk
        have hjk:j≠k:=fun e=>by subst e; rw [hDj] at hk; cases hk
        rw [getD_set_ne false hjk]; exact hdep k hk
      · rw [Array.setIfInBounds_comm _ _ hji]
        exact h3.2.2
end
def hangs (ops:Array Oper) (listed:Array Bool) (i:Nat):List Nat :=
  (List.range ops.size).foldl (init:=[]) fun D j =>
    match ops[j]? with
    | some o=>if !listed.getD j true && o.after.toList.any (fun e=>Region.binds .any e && (e.on==i || D.contains e.on)) then j::D else D
    | none=>D
def hangsOk (ops:Array Oper) (listed:Array Bool) (i:Nat) (D:List Nat):Bool :=
  D.all fun j=>!listed.getD j false && match ops[j]? with
    | some o=>o.after.toList.any fun e=>Region.binds .any e && (e.on==i || D.contains e.on)
    | none=>true
def readFree (P:Program) (ops:Array Oper) (listed:Array Bool) (i:Nat):Bool :=
  match ops[i]? with
  | none=>false
  | some oi=>isLoad oi && hangsOk ops listed i (hangs ops listed i) && (List.range ops.size).all fun j=>j==i || (hangs ops listed i).contains j || listed.getD j true || match ops[j]? with
      | some oj=>oi.apart ops oj && isSafe P oj
      | none=>true
def pureFree (P:Program) (ops:Array Oper) (listed:Array Bool) (i:Nat):Bool :=
  match ops[i]? with
  | none=>false
  | some oi=>isPure' P oi && Region.free .any ops listed i
def heads:Tr→List Nat
  | .nil=>[]
  | .op i _=>[i]
  | .both t u=>heads t++heads u
mutual
def chkT (P:Program) (ops:Array Oper):Nat→Array Bool→Tr→Bool
  | _,listed,.nil=>(Region.ready .any ops listed).isEmpty
  | 0,_,_=>false
  | fuel+1,listed,.op i t=>chkT P ops fuel (listed.setIfInBounds i true) t &&
      ((Region.ready .any ops listed==[i]) || ((Region.ready .any ops listed).contains i && (pureFree P ops listed i || readFree P ops listed i)))
  | fuel+1,listed,.both t u=>!(Region.ready .any ops listed).isEmpty && (Region.ready .any ops listed).all (fun r=>(heads t++heads u).contains r) &&
      chkB P ops fuel listed t && chkB P ops fuel listed u
def chkB (P:Program) (ops:Array Oper):Nat→Array Bool→Tr→Bool
  | _,_,.nil=>false
  | fuel,listed,.op i t=>chkT P ops fuel (listed.setIfInBounds i true) t
  | fuel,listed,.both t u=>chkB P ops fuel listed t && chkB P ops fuel listed u
end
theorem hangsOk_spec {ops:Array Oper}{listed:Array Bool}{i:Nat}{D:List Nat} (h:hangsOk ops listed i D=true) :
    (∀ j oj,ops[j]? = some oj→D.contains j=true→∃ e∈oj.after,Region.binds .any e=true∧(e.on=i∨D.contains e.on=true))∧(∀ j,D.contains j=true→listed.getD j false=false):=by
  unfold hangsOk at h
  rw [List.all_eq_true] at h
  refine ⟨fun j oj hj hd=>?_,fun j hd=>?_⟩
  · have:=h j (by simpa using hd)
    simp only [hj,Bool.and_eq_true,List.any_eq_true] at this
    obtain ⟨-,e,he,h1,h2⟩:=this
    refine ⟨e,by simpa using he,h1,?_⟩
    simpa using h2
  · have:=h j (by simpa using hd)
    simp only [Bool.and_eq_true,Bool.not_eq_true'] at this
    exact this.1
theorem chk_sound {P:Program}{N:Nat}{ops:Array Oper}{Q:PEnv→Heap→Prop}{Q':Exit→Act→World→Prop}{w0:World} (hs:Region.noSelect ops=true) (hd:dstsOk N ops=true)
    (hQ:∀ c a w,¬ Q' (.panic c) a w) (hQo:∀ a w,¬ Q' .outgrown a w) (hq:∀ ρ a w,Q ρ w.heap→Fits N ρ a→Rest w0 w→Q' .normal a w):∀ tr:Tr,
    (∀ fuel listed,chkT P ops fuel listed tr=true→∀ dec ρ a w,Fits N ρ a→Rest w0 w→evT P ops Q tr dec ρ w.heap→wpAny P .any ops Q' fuel listed a w) ∧
    (∀ fuel listed,chkB P ops fuel listed tr=true→∀ dec ρ a w,Fits N ρ a→Rest w0 w→evT P ops Q tr dec ρ w.heap→∀ i∈heads tr,wpOp P ops Q' i (wpAny P .any ops Q' fuel (listed.setIfInBounds i true)) a w):=by
  intro tr
  induction tr with
  | nil =>
    refine ⟨fun fuel listed hc dec ρ a w hf hr he=>?_,fun fuel listed hc dec ρ a w hf hr he i hi=>by cases hi⟩
    have hc':(Region.ready .any ops listed).isEmpty=true:=by cases fuel <;> simpa [chkT] using hc
    exact wpAny_done (by simpa using hc') (hq ρ a w he hf hr) fuel
  | op i t ih =>
    refine ⟨fun fuel listed hc dec ρ a w hf hr he=>?_,fun fuel listed hc dec ρ a w hf hr he j hj=>?_⟩
    · cases fuel with
      | zero=>simp [chkT] at hc
      | succ fuel =>
        simp only [chkT,Bool.and_eq_true,Bool.or_eq_true] at hc
        obtain ⟨hc1,hc2⟩:=hc
        rcases hc2 with hc2 | ⟨hr1,hfree⟩
        · have hre:Region.ready .any ops listed=[i]:=by simpa using hc2
          refine wpAny_all hre (by simp) fun j hj=>?_
          obtain rfl:j=i:=by simpa using hj
          exact evStep_sound hd hf hr he fun dec ρ a w hf hr he=>ih.1 fuel _ hc1 dec ρ a w hf hr he
        · rcases hfree with hfree | hfree
          · unfold pureFree at hfree
            cases ho:ops[i]? with
            | none=>simp [ho] at hfree
            | some oi =>
              simp only [ho,Bool.and_eq_true] at hfree
              obtain ⟨v,hy,dec',ρ',hk,hf'⟩:=evStep_tells ho (tells_pure hfree.1) hd hf he
              have hy':Yields P ops oi v a:=by
                rcases hy with ⟨h1,h2⟩ | h
                · exact .inl ⟨h1,fun w=>h2 w trivial⟩
                · exact .inr h
              exact wpAny_take ho hs hfree.2 hr1 (fun c a w h=>(hQ _ _ _ h).elim) hy' (ih.1 fuel _ hc1 dec' ρ' _ w hf' hr hk)
          · unfold readFree at hfree
            cases ho:ops[i]? with
            | none=>simp [ho] at hfree
            | some oi =>
              simp only [ho,Bool.and_eq_true] at hfree
              obtain ⟨⟨hl,hh⟩,hall⟩:=hfree
              obtain ⟨v,hy,dec',ρ',hk,hf'⟩:=evStep_tells ho (tells_load hl) hd hf he
              obtain ⟨hD,hdep⟩:=hangsOk_spec hh
              refine wpAny_read (D:=fun j=>(hangs ops listed i).contains j) ho (Region.noSelect_spec hs) hD hQ hQo fuel listed a w (Pre.refl _) ?_ hdep (by simpa using hr1) hy (ih.1 fuel _ hc1 dec' ρ' _ w hf' hr hk)
              intro j oj hoj hji hDj hun
              have:=List.all_eq_true.1 hall j (by simpa using (Array.getElem?_eq_some_iff.1 hoj).1)
              simp only [hoj,Bool.or_eq_true,beq_iff_eq,hji,false_or,hDj,Bool.false_eq_true,hun,Bool.and_eq_true] at this
              exact this
    · obtain rfl:j=i:=by simpa [heads] using hj
      have hc':chkT P ops fuel (listed.setIfInBounds j true) t=true:=by simpa [chkB] using hc
      exact evStep_sound hd hf hr he fun dec ρ a w hf hr he=>ih.1 fuel _ hc' dec ρ a w hf hr he
  | both t u iht ihu =>
    have B:∀ fuel listed,chkB P ops fuel listed t=true→chkB P ops fuel listed u=true→∀ dec ρ a w,Fits N ρ a→Rest w0 w→evT P ops Q t dec ρ w.heap∧evT P ops Q u dec ρ w.heap →
        ∀ i∈heads t++heads u,wpOp P ops Q' i (wpAny P .any ops Q' fuel (listed.setIfInBounds i true)) a w:=by
      intro fuel listed h1 h2 dec ρ a w hf hr he i hi
      rcases List.mem_append.1 hi with hi | hi
      · exact iht.2 fuel listed h1 dec ρ a w hf hr he.1 i hi
      · exact ihu.2 fuel listed h2 dec ρ a w hf hr he.2 i hi
    refine ⟨fun fuel listed hc dec ρ a w hf hr he=>?_,fun fuel listed hc dec ρ a w hf hr he j hj=>?_⟩
    · cases fuel with
      | zero=>simp [chkT] at hc
      | succ fuel =>
        simp only [chkT,Bool.and_eq_true] at hc
        obtain ⟨⟨⟨h0,h1⟩,h2⟩,h3⟩:=hc
        refine wpAny_all rfl (by intro e; simp [e] at h0) fun j hj=>?_
        exact B fuel listed h2 h3 dec ρ a w hf hr he j (by simpa using List.all_eq_true.1 h1 j hj)
    · simp only [chkB,Bool.and_eq_true] at hc
      exact B fuel listed hc.1 hc.2 dec ρ a w hf hr he j hj
def drawChk (P:Program) (N:Nat) (ops:Array Oper) (tr:Tr):Bool :=
  P.follows .mixedOrders && Region.noSelect ops && dstsOk N ops && chkT P ops ops.size (Array.replicate ops.size false) tr
theorem draw_ok {P:Program}{N:Nat}{ops:Array Oper}{tr:Tr} (h:drawChk P N ops tr=true):DrawOK P N ops tr:=by
  simp only [drawChk,Bool.and_eq_true] at h
  obtain ⟨⟨⟨hm,hs⟩,hd⟩,hc⟩:=h
  intro Q Q' w0 hQ hQo hq ρ a w hf hr he t
  simp only [Region.schedule,hm,Bool.true_or,if_true]
  exact wpAny_sound ops.size t _ a _ ((chk_sound hs hd hQ hQo hq tr).1 ops.size _ hc [] ρ a { w with drawn:=w.drawn+1 } hf (hr.trans ⟨rfl,rfl,rfl⟩) he)
abbrev KT:=Value→Heap→Prop
abbrev OA:=Option Addr
def Imp {l:Live} (j:Tup l→Heap→Prop):Prop:=∀ x h,j x h→j x h
theorem imp {l:Live} (j:Tup l→Heap→Prop):Imp j:=fun _ _ H=>H
def ImpN {l:Live} (j:Nat→Tup l→Heap→Prop):Prop:=∀ n x h,j (n+1) x h→j (n+1) x h
theorem impN {l:Live} (j:Nat→Tup l→Heap→Prop):ImpN j:=fun _ _ _ H=>H
def Obl (P:Program) (fn:Func) (p:Plan) (K:KT):Prop:=oblF P fn.ntmps (bodyOf fn) p (retQ P fn.results.toList K) True
def Ev (P:Program) (fn:Func) (p:Plan) (K:KT) (args:List Value) (h:Heap):Prop:=ev P (bodyOf fn) p (retQ P fn.results.toList K) (args0 0 args) h
theorem obl_of {P:Program}{fn:Func}{p:Plan}{K:KT}{R:Prop} (e:Obl P fn p K=R) (r:R):Obl P fn p K:=e ▸ r
theorem obl_true {P:Program}{fn:Func}{p:Plan}{K:KT} (e:Obl P fn p K=True):Obl P fn p K:=e ▸ trivial
theorem calls_of_Ev {P:Program}{f:FuncId}{fn:Func} (p:Plan) {args:List Value}{K:KT}{h:Heap} (hfn:P.funcs[f]? = some fn) (hb:fitF fn args.length=true)
    (ho:Obl P fn p K) (he:Ev P fn p K args h):CallsH P f args K h:=calls_of_evF p hfn hb ho he
def opsAt (n:Nat):Code→Array Oper
  | .region id ops _=>if id=n then ops else #[]
  | .seq x y=>match opsAt n x with
    | ⟨[]⟩=>opsAt n y
    | l=>l
  | .cond _ x y=>match opsAt n x with
    | ⟨[]⟩=>opsAt n y
    | l=>l
  | .block _ c=>opsAt n c
  | .loop c=>opsAt n c
  | _=>#[]
end Go.Lift
end
section
set_option linter.unusedVariables false
set_option linter.unusedSimpArgs false
namespace Go.Lift
def afts (o:Oper):List Nat:=o.after.toList.filterMap fun e=>if Region.binds .any e then some e.on else none
def aftsT (ops:Array Oper):List (List Nat):=ops.toList.map afts
def dstsT (ops:Array Oper):List (Option Nat):=ops.toList.map (·.dst)
abbrev row (A:List (List Nat)) (i:Nat):List Nat:=A.getD i []
def fullE (D:List (Option Nat)) (vs:List Value):List Nat→PEnv
  | []=>[]
  | j::js=>match D.getD j none with
    | some t=>(t,vs.getD j undef)::fullE D vs js
    | none=>fullE D vs js
def hasN (l:List Nat) (j:Nat):Bool:=match l with
  | []=>false
  | x::r=>match Nat.beq x j with
    | true=>true
    | false=>hasN r j
theorem hasN_iff {l:List Nat}{j:Nat}:hasN l j=true↔j∈l:=by
  induction l with
  | nil=>simp [hasN]
  | cons x r ih =>
    unfold hasN
    cases hb:Nat.beq x j with
    | true=>have:=Nat.eq_of_beq_eq_true hb; subst this; simp
    | false =>
      simp only [ih,List.mem_cons]
      refine ⟨.inr,fun h=>h.resolve_left fun e=>?_⟩
      rw [e,Nat.beq_refl] at hb; cases hb
def freshD (D:List (Option Nat)) (keys:List Nat):Bool:=match D with
  | []=>true
  | none::D=>freshD D keys
  | some t::D=>!hasN keys t && freshD D (t::keys)
def parTab (n:Nat) (A AN DE uses:List (List Nat)):Bool:=(List.range n).all fun i =>
  (row uses i).all (fun j=>hasN (row A i) j) && (row A i).all (fun j=>Nat.blt j i) && (row AN i).all (fun j=>(row A i).any fun k=>Nat.beq j k || hasN (row AN k) j) &&
  (row DE i).all fun j=>Nat.blt j n && (row A j).any fun k=>Nat.beq i k || hasN (row DE i) k
def Closed (A:List (List Nat)) (d:Dn):Prop:=∀ j k,d j=true→k∈row A j→d k=true
theorem row_afts {ops:Array Oper}{A:List (List Nat)} (hA:aftsT ops=A) {i:Nat}{o:Oper} (ho:ops[i]? = some o):row A i=afts o:=by
  rw [← hA]
  unfold row aftsT
  rw [List.getD_eq_getElem?_getD,List.getElem?_map,Array.getElem?_toList,ho]
  rfl
theorem aft_row {ops:Array Oper}{A:List (List Nat)} (hA:aftsT ops=A) {i:Nat}{o:Oper} (ho:ops[i]? = some o) {d:Dn}:aft o d=true↔∀ k∈row A i,d k=true:=by
  rw [row_afts hA ho]
  unfold aft afts
  rw [← Array.all_toList,List.all_eq_true]
  constructor
  · intro h k hk
    obtain ⟨e,he,h2⟩:=List.mem_filterMap.1 hk
    have:=h e he
    split at h2
    · rename_i hb
      cases h2
      rw [hb] at this
      simpa using this
    · cases h2
  · intro h e he
    cases hb:Region.binds .any e with
    | false=>rfl
    | true =>
      have:=h e.on (List.mem_filterMap.2 ⟨e,he,by rw [if_pos hb]⟩)
      simp [this]
theorem Dn.on_same (d:Dn) (i:Nat):d.on i i=true:=by unfold Dn.on; rw [Nat.beq_refl]
theorem Dn.on_ne {d:Dn}{i j:Nat} (h:j≠i):d.on i j=d j:=by
  unfold Dn.on
  have:Nat.beq j i=false:=by
    cases hb:Nat.beq j i
    · rfl
    · exact absurd (Nat.eq_of_beq_eq_true hb) h
  rw [this]
theorem Closed.on {A:List (List Nat)}{d:Dn}{i:Nat} (hc:Closed A d) (ha:∀ k∈row A i,d k=true):Closed A (d.on i):=fun j k hj hk=>by
  by_cases e:k=i
  · subst e; exact Dn.on_same d k
  · rw [Dn.on_ne e]
    by_cases e2:j=i
    · subst e2; exact ha k hk
    · rw [Dn.on_ne e2] at hj
      exact hc j k hj hk
def msk (imp:List Nat) (d:Dn):Dn:=fun j=>hasN imp j && d j
theorem msk_on {imp:List Nat}{d:Dn}{i:Nat} (h:hasN imp i=true):msk imp (d.on i)=(msk imp d).on i:=by
  funext j
  unfold msk
  by_cases e:j=i
  · subst e; rw [Dn.on_same,Dn.on_same,h]; rfl
  · rw [Dn.on_ne e,Dn.on_ne e]
theorem msk_off {imp:List Nat}{d:Dn}{i:Nat} (h:hasN imp i=false):msk imp (d.on i)=msk imp d:=by
  funext j
  unfold msk
  by_cases e:j=i
  · subst e; rw [h]; rfl
  · rw [Dn.on_ne e]
theorem get_append (a b:PEnv) (t:Nat):get (a++b) t=match get a t with
    | some v=>some v
    | none=>get b t:=by
  induction a with
  | nil=>rfl
  | cons p a ih =>
    show get (p::(a++b)) t=_
    obtain ⟨x,y⟩:=p
    rw [get_cons,get_cons]
    by_cases e:x=t
    · rw [if_pos e,if_pos e]
    · rw [if_neg e,if_neg e,ih]
theorem get_full {D:List (Option Nat)}{vs:List Value}{t:Nat}{v:Value}:∀ {js:List Nat},get (fullE D vs js) t=some v→∃ j∈js,D.getD j none=some t∧v=vs.getD j undef
  | [],h=>by cases h
  | j::js,h=>by
    have tl:get (fullE D vs js) t=some v→∃ k∈j::js,D.getD k none=some t∧v=vs.getD k undef:=fun h=>by
      obtain ⟨k,hk,r⟩:=get_full h
      exact ⟨k,List.mem_cons_of_mem _ hk,r⟩
    unfold fullE at h
    split at h
    · rename_i u hu
      rw [get_cons] at h
      split at h
      · rename_i e
        subst e
        exact ⟨j,List.mem_cons_self ..,hu,(Option.some.inj h).symm⟩
      · exact tl h
    · exact tl h
theorem get_keys {ρ:PEnv}{t:Nat}{v:Value} (h:get ρ t=some v):t∈ρ.map Prod.fst:=by
  induction ρ with
  | nil=>cases h
  | cons p ρ ih =>
    obtain ⟨x,y⟩:=p
    rw [get_cons] at h
    split at h
    · rename_i e; subst e; simp
    · exact List.mem_cons_of_mem _ (ih h)
theorem freshD_spec:∀ {D:List (Option Nat)}{keys:List Nat},freshD D keys=true→∀ (i t:Nat),D.getD i none=some t→t ∉ keys∧∀ j,D.getD j none=some t→j=i
  | [],_,_,i,t,h=>by simp at h
  | none::D,keys,hf,i,t,h=>by
    unfold freshD at hf
    cases i with
    | zero=>cases h
    | succ i =>
      obtain ⟨h1,h2⟩:=freshD_spec hf i t h
      refine ⟨h1,fun j hj=>?_⟩
      cases j with
      | zero=>cases hj
      | succ j=>rw [h2 j hj]
  | some u::D,keys,hf,i,t,h=>by
    unfold freshD at hf
    rw [Bool.and_eq_true] at hf
    have hu:u ∉ keys:=fun hm=>by have:=hasN_iff.2 hm; rw [this] at hf; cases hf.1
    cases i with
    | zero =>
      have e:u=t:=Option.some.inj h
      subst e
      refine ⟨hu,fun j hj=>?_⟩
      cases j with
      | zero=>rfl
      | succ j=>exact absurd (List.mem_cons_self ..) (freshD_spec hf.2 j u hj).1
    | succ i =>
      obtain ⟨h1,h2⟩:=freshD_spec hf.2 i t h
      refine ⟨fun hm=>h1 (List.mem_cons_of_mem _ hm),fun j hj=>?_⟩
      cases j with
      | zero =>
        have e:u=t:=Option.some.inj hj
        exact absurd (by rw [← e]; exact List.mem_cons_self ..) h1
      | succ j=>rw [h2 j hj]
section
variable {P:Program}{ops:Array Oper}
theorem par_of {G:Type} (ρ0:PEnv) (vals:G→List Value) (A:List (List Nat)) (D:List (Option Nat)) (AN DE uses:List (List Nat)) (imp:List Nat) (J:Dn→G→Heap→Prop) {Q:PEnv→Heap→Prop}{h:Heap} (g0:G)
    (hA:(aftsT ops,dstsT ops)=(A,D)) (hc:(freshD D (ρ0.map Prod.fst) && parTab D.length A AN DE uses)=true) (h0:J (fun _=>false) g0 h)
    (hp:∀ i,i<D.length→hasN imp i=false→∀ d g h k,(∀ j∈row AN i,hasN imp j=true→d j=true)→(∀ j∈row DE i,d j=false)→J d g h→k ((vals g).getD i undef) h→evI P ops i (fullE D (vals g) (row uses i)++ρ0) h k)
    (hi:∀ i,i<D.length→hasN imp i=true→∀ d g h,d i=false→(∀ j∈row AN i,hasN imp j=true→d j=true)→(∀ j∈row DE i,d j=false)→J d g h →
      ∀ k:Value→Heap→Prop,(∀ g' h',(∀ j,j<D.length→j ∉ row DE i→j≠i→(vals g').getD j undef=(vals g).getD j undef)→J (d.on i) g' h'→k ((vals g').getD i undef) h')→evI P ops i (fullE D (vals g) (row uses i)++ρ0) h k)
    (fin:∀ d g h,(∀ j,hasN imp j=true→j<D.length→d j=true)→J d g h→Q (fullE D (vals g) (List.range D.length)++ρ0) h)
    (hQ:∀ ρ ρ' h,(∀ t v,get ρ t=some v→get ρ' t=some v)→Q ρ h→Q ρ' h):evPar P ops Q ρ0 h:=by
  have hA1:aftsT ops=A:=congrArg Prod.fst hA
  have hD1:dstsT ops=D:=congrArg Prod.snd hA
  have hlen:D.length=ops.size:=by rw [← hD1]; simp [dstsT]
  have hdst:∀ (i:Nat) (o:Oper),ops[i]? = some o→D.getD i none=o.dst:=fun i o ho=>by
    rw [← hD1]
    unfold dstsT
    rw [List.getD_eq_getElem?_getD,List.getElem?_map,Array.getElem?_toList,ho]; rfl
  rw [Bool.and_eq_true] at hc
  have fr:=freshD_spec hc.1
  have tab:∀ i,i<D.length→((∀ j∈row uses i,j∈row A i)∧(∀ j∈row A i,j<i)∧(∀ j∈row AN i,∃ k∈row A i,j=k∨j∈row AN k))∧∀ j∈row DE i,j<D.length∧∃ k∈row A j,i=k∨k∈row DE i:=fun i hi=>by
    have:=List.all_eq_true.1 hc.2 i (List.mem_range.2 hi)
    simp only [Bool.and_eq_true] at this
    obtain ⟨⟨⟨h1,h2⟩,h3⟩,h4⟩:=this
    refine ⟨⟨fun j hj=>hasN_iff.1 (List.all_eq_true.1 h1 j hj),fun j hj=>by simpa using List.all_eq_true.1 h2 j hj,fun j hj=>?_⟩,fun j hj=>?_⟩
    · obtain ⟨k,hk,h5⟩:=List.any_eq_true.1 (List.all_eq_true.1 h3 j hj)
      rw [Bool.or_eq_true] at h5
      exact ⟨k,hk,h5.imp Nat.eq_of_beq_eq_true hasN_iff.1⟩
    · have h5:=List.all_eq_true.1 h4 j hj
      rw [Bool.and_eq_true] at h5
      obtain ⟨k,hk,h6⟩:=List.any_eq_true.1 h5.2
      rw [Bool.or_eq_true] at h6
      exact ⟨by simpa using h5.1,k,hk,h6.imp Nat.eq_of_beq_eq_true hasN_iff.1⟩
  have ancs:∀ (d:Dn),Closed A d→∀ n i,i<n→i<D.length→(∀ k∈row A i,d k=true)→∀ j∈row AN i,d j=true:=by
    intro d hcl n
    induction n with
    | zero=>intro i hi; exact absurd hi (Nat.not_lt_zero _)
    | succ n ih =>
      intro i hin hil h1 j hj
      obtain ⟨k,hk,h2⟩:=(tab i hil).1.2.2 j hj
      rcases h2 with rfl | h2
      · exact h1 j hk
      · have hki:=(tab i hil).1.2.1 k hk
        exact ih k (by omega) (by omega) (fun l hl=>hcl k l (h1 k hk) hl) j h2
  have descs:∀ (d:Dn),Closed A d→∀ i,i<D.length→d i=false→∀ n j,j<n→j∈row DE i→d j=false:=by
    intro d hcl i hil hdi n
    induction n with
    | zero=>intro j hj; exact absurd hj (Nat.not_lt_zero _)
    | succ n ih =>
      intro j hjn hj
      obtain ⟨hjl,k,hk,h2⟩:=(tab i hil).2 j hj
      cases hdj:d j with
      | false=>rfl
      | true =>
        have hdk:=hcl j k hdj hk
        rcases h2 with rfl | h2
        · rw [hdi] at hdk; cases hdk
        · have:=(tab j hjl).1.2.1 k hk
          rw [ih k (by omega) h2] at hdk; cases hdk
  refine ⟨fun d ρ h=>Closed A d∧∃ g,(∀ t v,get ρ0 t=some v→get ρ t=some v)∧(∀ i t,i<D.length→d i=true→D.getD i none=some t→get ρ t=some ((vals g).getD i undef))∧J (msk imp d) g h,?_,?_,?_⟩
  · exact ⟨fun j k hj=>(by cases hj),g0,fun t v h=>h,fun i t _ hd=>(by cases hd),(by
      have e:msk imp (fun _=>false)=fun _=>false:=by funext j; simp [msk]
      rw [e]; exact h0)⟩
  · rintro d ρ h i o ho hdi ha ⟨hcl,g,hr,hv,hJ⟩
    have hlt:i<D.length:=by rw [hlen]; exact (Array.getElem?_eq_some_iff.1 ho).1
    have hd1:=(aft_row hA1 ho).1 ha
    have hod:=hdst i o ho
    refine ⟨fullE D (vals g) (row uses i)++ρ0,fun t v hg=>?_,?_⟩
    · rw [get_append] at hg
      split at hg
      · rename_i u hu
        cases hg
        obtain ⟨j,hj,ht,e⟩:=get_full hu
        have hja:=(tab i hlt).1.1 j hj
        have:=(tab i hlt).1.2.1 j hja
        rw [e]
        exact hv j t (by omega) (hd1 j hja) ht
      · exact hr t v hg
    · have keep:∀ (v:Value) t u,(∀ t',o.dst=some t'→t≠t')→get ρ t=some u→get (ρ.put o.dst v) t=some u:=fun v t u hne hg=>by
        unfold PEnv.put
        cases e:o.dst with
        | none=>exact hg
        | some t' =>
          simp only
          rw [get_cons,if_neg (fun e2=>hne t' e e2.symm)]
          exact hg
      have fin2:∀ v g' h',(vals g').getD i undef=v→(∀ j,j<D.length→d j=true→j≠i→(vals g').getD j undef=(vals g).getD j undef)→J (msk imp (d.on i)) g' h' →
          Closed A (d.on i)∧∃ g,(∀ t v',get ρ0 t=some v'→get (ρ.put o.dst v) t=some v')∧(∀ j t,j<D.length→(d.on i) j=true→D.getD j none=some t→get (ρ.put o.dst v) t=some ((vals g).getD j undef))∧J (msk imp (d.on i)) g h':=fun v g' h' hv1 hv2 hJ'=>by
        refine ⟨hcl.on hd1,g',fun t u hg=>keep v t u (fun t' ht' e=>?_) (hr t u hg),fun j t hj hdj ht=>?_,hJ'⟩
        · subst e; exact (fr i t (by rw [hod]; exact ht')).1 (get_keys hg)
        · by_cases e:j=i
          · subst e
            rw [hod] at ht
            unfold PEnv.put
            rw [ht]
            simp only
            rw [get_cons,if_pos rfl,hv1]
          · rw [Dn.on_ne e] at hdj
            rw [hv2 j hj hdj e]
            exact keep v t _ (fun t' ht' e2=>by subst e2; exact e ((fr i t (by rw [hod]; exact ht')).2 j ht)) (hv j t hj hdj ht)
      have hanc:∀ j∈row AN i,hasN imp j=true→msk imp d j=true:=fun j hj hm=>by
        unfold msk
        rw [hm,ancs d hcl (i+1) i (by omega) hlt hd1 j hj]; rfl
      have hdesc:∀ j∈row DE i,d j=false:=fun j hj=>descs d hcl i hlt hdi (j+1) j (by omega) hj
      have hdm:∀ j∈row DE i,msk imp d j=false:=fun j hj=>by unfold msk; rw [hdesc j hj,Bool.and_false]
      cases him:hasN imp i with
      | false =>
        refine hp i hlt him (msk imp d) g h _ hanc hdm hJ ?_
        exact fin2 _ g h rfl (fun _ _ _ _=>rfl) (by rw [msk_off him]; exact hJ)
      | true =>
        refine hi i hlt him (msk imp d) g h (by unfold msk; rw [hdi,Bool.and_false]) hanc hdm hJ _ fun g' h' e2 e3=>?_
        exact fin2 _ g' h' rfl (fun j hlt' hdj hne=>e2 j hlt' (fun hm=>by rw [hdesc j hm] at hdj; cases hdj) hne) (by rw [msk_on him]; exact e3)
  · rintro d ρ h hall ⟨hcl,g,hr,hv,hJ⟩
    have all:∀ n,n≤D.length→∀ i,i<n→d i=true:=by
      intro n
      induction n with
      | zero=>intro _ i hi; exact absurd hi (Nat.not_lt_zero _)
      | succ n ih =>
        intro hn i hin
        by_cases e:i=n
        · subst e
          cases hd:d i with
          | true=>rfl
          | false =>
            have hlt:i<ops.size:=by omega
            have ho:ops[i]? = some ops[i]:=Array.getElem?_eq_getElem hlt
            have h1:=hall i _ ho hd
            have:aft ops[i] d=true:=(aft_row hA1 ho).2 fun k hk=>ih (by omega) k ((tab i hn).1.2.1 k hk)
            rw [this] at h1; cases h1
        · exact ih (by omega) i (by omega)
    refine hQ _ ρ h (fun t v hg=>?_) (fin (msk imp d) g h (fun j hm hlt=>by unfold msk; rw [hm,all _ (Nat.le_refl _) j hlt]; rfl) hJ)
    rw [get_append] at hg
    split at hg
    · rename_i u hu
      cases hg
      obtain ⟨j,hj,ht,e⟩:=get_full hu
      rw [e]
      exact hv j t (List.mem_range.1 hj) (all _ (Nat.le_refl _) j (List.mem_range.1 hj)) ht
    · exact hr t v hg
end
theorem leaf_mono {l:Live}{j:Tup l→Heap→Prop}{ρ ρ':PEnv}{h:Heap} (hs:∀ t v,get ρ t=some v→get ρ' t=some v) (hl:leaf l j ρ h):leaf l j ρ' h:=by
  have key:∀ {l:Live}{x:Tup l},rdL l ρ=some x→rdL l ρ'=some x:=by
    intro l
    induction l with
    | nil=>intro x h; exact h
    | cons p l ih =>
      intro x h
      unfold rdL at h ⊢
      split at h
      · rename_i v hv
        rw [hs _ _ hv]
        simp only
        split at h
        · rename_i y hy
          split at h
          · rename_i z hz
            rw [ih hz]
            exact h
          · cases h
        · cases h
      · cases h
  unfold leaf at hl ⊢
  split at hl
  · rename_i x hx
    rw [key hx]
    exact hl
  · exact hl.elim
theorem of_map {n:Nat}{F:Nat→Prop}{L:List Prop} (e:(List.range n).map F=L) {i:Nat} (hi:i<n):F i=L.getD i True:=by
  rw [← e,List.getD_eq_getElem?_getD,List.getElem?_map,List.getElem?_range hi]
  rfl
theorem below0 {p:Nat→Prop}:∀ i,i<0→p i:=fun i h=>absurd h (Nat.not_lt_zero _)
theorem belowS {p:Nat→Prop}{n:Nat} (h:∀ i,i<n→p i) (hn:p n):∀ i,i<n+1→p i:=fun i hi=>by
  by_cases e:i=n
  · subst e; exact hn
  · exact h i (by omega)
theorem forall_lt {n:Nat}{p:Nat→Prop} (h:∀ i,i<n→p i):∀ i,i<n→p i:=h
def selU (D:List Nat) (i:Nat):Nat→List Value→List Value
  | _,[]=>[]
  | j,x::r=>(match hasN D j,Nat.beq j i with
    | false,false=>x
    | _,_=>undef)::selU D i (j+1) r
theorem selU_get {D:List Nat}{i:Nat}:∀ {v:List Value}{s j:Nat},s+j ∉ D→s+j≠i→(selU D i s v).getD j undef=v.getD j undef
  | [],s,j,_,_=>rfl
  | x::r,s,0,h1,h2=>by
    have e1:hasN D s=false:=by
      cases h:hasN D s with
      | false=>rfl
      | true=>exact absurd (hasN_iff.1 h) h1
    have e2:Nat.beq s i=false:=by
      cases h:Nat.beq s i with
      | false=>rfl
      | true=>exact absurd (Nat.eq_of_beq_eq_true h) h2
    unfold selU
    rw [e1,e2]
    rfl
  | x::r,s,j+1,h1,h2=>by
    unfold selU
    have e:s+1+j=s+(j+1):=by omega
    exact selU_get (v:=r) (s:=s+1) (j:=j) (by rw [e]; exact h1) (by rw [e]; exact h2)
theorem offs_same {n i:Nat}{D:List Nat}{v v':List Value} (e:selU D i 0 v'=selU D i 0 v):∀ j,j<n→j ∉ D→j≠i→v'.getD j undef=v.getD j undef:=fun j _ hm hne=>by
  rw [← selU_get (D:=D) (i:=i) (v:=v') (s:=0) (j:=j) (by rw [Nat.zero_add]; exact hm) (by rw [Nat.zero_add]; exact hne),e,selU_get (by rw [Nat.zero_add]; exact hm) (by rw [Nat.zero_add]; exact hne)]
theorem anc_of {L:List Nat}{imp:List Nat}{d:Dn} (h:∀ j∈L,hasN imp j=true→d j=true) (j:Nat) (hj:(hasN L j && hasN imp j)=true):d j=true:=by
  rw [Bool.and_eq_true] at hj
  exact h j (hasN_iff.1 hj.1) hj.2
theorem desc_of {L:List Nat}{d:Dn} (h:∀ j∈L,d j=false) (j:Nat) (hj:hasN L j=true):d j=false:=h j (hasN_iff.1 hj)
end Go.Lift
end
section
namespace Go.Lift
structure Keeps (S:Nat→Prop) (h h':Heap):Prop where
  size:h.size≤h'.size
  blk:∀ b,b<h.size→¬ S b→h'[b]? = h[b]?
abbrev Kept:Heap→Heap→Prop:=Keeps fun _=>False
theorem Keeps.refl (S:Nat→Prop) (h:Heap):Keeps S h h:=⟨Nat.le_refl _,fun _ _ _=>rfl⟩
theorem Kept.refl (h:Heap):Kept h h:=Keeps.refl _ h
theorem Keeps.trans {S:Nat→Prop}{a b c:Heap} (h:Keeps S a b) (k:Keeps S b c):Keeps S a c :=
  ⟨Nat.le_trans h.size k.size,fun i hi hs=>(k.blk i (Nat.lt_of_lt_of_le hi h.size) hs).trans (h.blk i hi hs)⟩
theorem Keeps.trans' {S S':Nat→Prop}{a b c:Heap} (h:Keeps S a b) (k:Keeps S' b c) (hs:∀ i,i<a.size→S' i→S i):Keeps S a c :=
  ⟨Nat.le_trans h.size k.size,fun i hi hn=>(k.blk i (Nat.lt_of_lt_of_le hi h.size) (fun x=>hn (hs i hi x))).trans (h.blk i hi hn)⟩
theorem Keeps.mono {S S':Nat→Prop}{a b:Heap} (h:Keeps S a b) (hs:∀ i,i<a.size→S i→S' i):Keeps S' a b :=
  ⟨h.size,fun i hi hn=>h.blk i hi fun x=>hn (hs i hi x)⟩
theorem Keeps.push (S:Nat→Prop) (h:Heap) (o:Obj):Keeps S h (h.push o) :=
  ⟨by simp,fun b hb _=>by rw [Array.getElem?_push,if_neg (by omega)]⟩
theorem Keeps.al (S:Nat→Prop) (h:Heap) (cs:Array Value) (t:TypeId):Keeps S h (al h cs t):=Keeps.push S h _
theorem Kept.trans {a b c:Heap} (h:Kept a b) (k:Kept b c):Kept a c:=Keeps.trans h k
theorem hcell_eq {h h':Heap}{a:Addr} (e:h'[a.block]? = h[a.block]?):hcell h' a=hcell h a:=by simp only [hcell,e]
theorem hfrozen_eq {h h':Heap}{a:Addr} (e:h'[a.block]? = h[a.block]?):hfrozen h' a=hfrozen h a:=by simp only [hfrozen,e]
theorem hcell_lt {h:Heap}{a:Addr}{v:Value} (e:hcell h a=some v):a.block<h.size:=by
  rcases Nat.lt_or_ge a.block h.size with hl | hl
  · exact hl
  · simp [hcell,Array.getElem?_eq_none hl] at e
theorem Keeps.cell {S:Nat→Prop}{h h':Heap} (k:Keeps S h h') {a:Addr}{v:Value} (e:hcell h a=some v) (hs:¬ S a.block):hcell h' a=some v:=by
  rw [hcell_eq (k.blk a.block (hcell_lt e) hs)]; exact e
theorem law_calls {P:Program}{f:FuncId}{args:List Value}{h:Heap} (c:CallsH P f args (fun v h'=>v=.bool true∧Kept h h') h) (W:World) (hW:W.heap=h) :
    Calls P f args.toArray W fun e W'=>e=.returned (.bool true)∧RowKit.Below W.heap.size W W' :=
  (c.2 W hW).mono fun e w' ⟨v,he,⟨hv,hk⟩,hr⟩=>by
    subst hv
    exact ⟨he,hr.os,hr.tape,hr.output,by rw [hW]; exact hk.size,fun k hk'=>by rw [hW] at hk' ⊢; exact hk.blk k hk' fun x=>x⟩
theorem add_zero (a:Addr):a.add 0=a:=rfl
theorem add_off {a:Addr} (h:a.spot=none) (n:Nat):a.add n=⟨a.block,a.off+n,none⟩:=by
  unfold Addr.add
  split
  · rename_i e; subst e; cases a; simp_all
  · rfl
theorem add_add {a:Addr} (h:a.spot=none) (i j:Nat):(a.add i).add j=a.add (i+j):=by
  rw [add_off (a:=a.add i) (by rw [add_off h]),add_off h,add_off h]
  simp [Nat.add_assoc]
theorem add_block (a:Addr) (n:Nat):(a.add n).block=a.block:=by unfold Addr.add; split <;> rfl
theorem add_spot {a:Addr} (h:a.spot=none) (n:Nat):(a.add n).spot=none:=by rw [add_off h]
theorem top_block (h:Heap):(top h).block=h.size:=rfl
def At (h:Heap) (a:Addr) (vs:List Value):Prop:=(vs≠[]→a.spot=none)∧∀ i,i<vs.length→hcell h (a.add i)=vs[i]?
def Mem (h:Heap) (a:Addr) (vs:List Value):Prop:=At h a vs∧∀ i,i<vs.length→hfrozen h (a.add i)=false
theorem At.get {h:Heap}{a:Addr}{vs:List Value} (m:At h a vs) {i:Nat}{v:Value} (e:vs[i]? = some v):hcell h (a.add i)=some v:=by
  rw [m.2 i (List.getElem?_eq_some_iff.1 e).1,e]
theorem At.lt {h:Heap}{a:Addr}{vs:List Value} (m:At h a vs) (hv:vs≠[]):a.block<h.size:=by
  have hl:0<vs.length:=List.length_pos_iff.2 hv
  have:=m.2 0 hl
  rw [List.getElem?_eq_getElem hl] at this
  exact hcell_lt this
theorem At.sp {h:Heap}{a:Addr}{vs:List Value} (m:At h a vs) {i:Nat} (hi:i<vs.length):a.spot=none:=m.1 fun e=>by subst e; exact absurd hi (Nat.not_lt_zero i)
theorem At.nil (h:Heap) (a:Addr):At h a []:=⟨fun e=>absurd rfl e,fun i hi=>absurd hi (Nat.not_lt_zero i)⟩
theorem At.keeps {S:Nat→Prop}{h h':Heap}{a:Addr}{vs:List Value} (m:At h a vs) (k:Keeps S h h') (hs:vs≠[]→¬ S a.block):At h' a vs:=by
  refine ⟨m.1,fun i hi=>?_⟩
  have hv:vs≠[]:=by intro e; subst e; simp at hi
  rw [← m.2 i hi]
  exact hcell_eq (by rw [add_block]; exact k.blk _ (m.lt hv) (hs hv))
theorem Mem.keeps {S:Nat→Prop}{h h':Heap}{a:Addr}{vs:List Value} (m:Mem h a vs) (k:Keeps S h h') (hs:vs≠[]→¬ S a.block):Mem h' a vs:=by
  refine ⟨m.1.keeps k hs,fun i hi=>?_⟩
  have hv:vs≠[]:=by intro e; subst e; simp at hi
  rw [← m.2 i hi]
  exact hfrozen_eq (by rw [add_block]; exact k.blk _ (m.1.lt hv) (hs hv))
theorem At.drop {h:Heap}{a:Addr}{vs:List Value} (m:At h a vs) (k:Nat):At h (a.add k) (vs.drop k):=by
  refine ⟨fun hv=>add_spot (m.1 fun e=>hv (by rw [e]; simp)) k,fun i hi=>?_⟩
  simp only [List.length_drop] at hi
  rw [add_add (m.sp (i:=k+i) (by omega)),List.getElem?_drop]
  exact m.2 (k+i) (by omega)
theorem At.take {h:Heap}{a:Addr}{vs:List Value} (m:At h a vs) (k:Nat):At h a (vs.take k):=by
  refine ⟨fun hv=>m.1 fun e=>hv (by rw [e]; simp),fun i hi=>?_⟩
  simp only [List.length_take] at hi
  rw [List.getElem?_take,if_pos (by omega)]
  exact m.2 i (by omega)
theorem rdC_of {h:Heap}{a:Addr}:∀ {vs:List Value}{i:Nat},(∀ j,j<vs.length→hcell h (a.add (i+j))=vs[j]?)→rdC h a i vs.length=some vs
  | [],_,_=>rfl
  | v::vs,i,hc=>by
    have h0:=hc 0 (by simp)
    simp only [Nat.add_zero,List.getElem?_cons_zero] at h0
    have h1:=rdC_of (h:=h) (a:=a) (vs:=vs) (i:=i+1) fun j hj=>by
      have:=hc (j+1) (by simp; omega)
      rw [List.getElem?_cons_succ] at this
      rw [← this]; congr 2; omega
    simp only [List.length_cons,rdC,h0,h1]
theorem At.rd {h:Heap}{a:Addr}{vs:List Value} (m:At h a vs) {n:Nat} (hn:vs.length=n):rdC h a 0 n=some vs:=by
  subst hn; exact rdC_of fun j hj=>by rw [Nat.zero_add]; exact m.2 j hj
theorem hset_size (h:Heap) (a:Addr) (v:Value):(hset h a v).size=h.size:=by simp [hset]
theorem hset_keeps (h:Heap) (a:Addr) (v:Value):Keeps (fun b=>b=a.block) h (hset h a v) :=
  ⟨by rw [hset_size]; exact Nat.le_refl _,fun b _ hn=>by
    simp only [hset,Array.getElem?_modify]
    rw [if_neg (fun e=>hn e.symm)]⟩
theorem hset_cell {h:Heap}{a b:Addr}{v u:Value} (ha:a.spot=none) (hb:b.spot=none) (hc:hcell h a=some u) :
    hcell (hset h a v) b=if a=b then some v else hcell h b:=by
  unfold hcell hset at *
  simp only [Array.getElem?_modify]
  by_cases hbl:a.block=b.block
  · rw [if_pos hbl,← hbl]
    cases ho:h[a.block]? with
    | none=>simp [ho] at hc
    | some o =>
      rw [ho] at hc
      cases o <;> simp at hc
      rename_i c t f
      have hc:=hc.2
      simp only [Option.map_some,ha,hb,Option.isSome_none,Bool.false_eq_true,if_false]
      by_cases ho:a.off=b.off
      · have:a=b:=by cases a; cases b; simp_all
        subst this
        have hlt:=(Array.getElem?_eq_some_iff.1 hc).1
        simp [hlt]
      · have:a≠b:=fun e=>ho (by rw [e])
        rw [if_neg this]
        simp [Array.getElem?_setIfInBounds_ne ho]
  · have:a≠b:=fun e=>hbl (by rw [e])
    rw [if_neg hbl,if_neg this]
theorem hset_frozen (h:Heap) (a b:Addr) (v:Value):hfrozen (hset h a v) b=hfrozen h b:=by
  unfold hfrozen hset
  simp only [Array.getElem?_modify]
  by_cases e:a.block=b.block
  · rw [if_pos e]
    cases h[b.block]? with
    | none=>rfl
    | some o=>cases o <;> rfl
  · rw [if_neg e]
theorem add_inj {a:Addr} (h:a.spot=none) {i j:Nat} (e:a.add i=a.add j):i=j:=by
  rw [add_off h,add_off h] at e
  simpa using e
theorem Mem.st1 {h:Heap}{a:Addr}{vs:List Value} (m:Mem h a vs) {i:Nat} (hi:i<vs.length) (v:Value):Mem (hset h (a.add i) v) a (vs.set i v):=by
  have hc:=m.1.2 i hi
  rw [List.getElem?_eq_getElem hi] at hc
  have hs:=m.1.sp hi
  refine ⟨⟨fun _=>hs,fun j hj=>?_⟩,fun j hj=>by rw [hset_frozen]; exact m.2 j (by simpa using hj)⟩
  simp only [List.length_set] at hj
  rw [hset_cell (add_spot hs i) (add_spot hs j) hc]
  by_cases e:i=j
  · subst e; simp [hj]
  · rw [if_neg (fun x=>e (add_inj hs x)),List.getElem?_set_ne e]; exact m.1.2 j hj
theorem stC_one {h:Heap}{a:Addr}{v u:Value} (hc:hcell h a=some u) (hf:hfrozen h a=false) (ho:one v=true):stC h a 0 [v]=some (hset h a v):=by
  simp [stC,add_zero,hc,hf,ho]
theorem Mem.stc {h:Heap}{a:Addr}{vs:List Value} (m:Mem h a vs) {i:Nat} (hi:i<vs.length) {v:Value} (ho:one v=true):stC h (a.add i) 0 [v]=some (hset h (a.add i) v):=by
  have hc:=m.1.2 i hi
  rw [List.getElem?_eq_getElem hi] at hc
  exact stC_one hc (m.2 i hi) ho
theorem stC_many {a:Addr}:∀ {ws:List Value}{h:Heap}{vs:List Value}{i:Nat},Mem h a vs→i+ws.length≤vs.length→(∀ w∈ws,one w=true) →
    ∃ h',stC h a i ws=some h'∧Mem h' a (vs.take i++ws++vs.drop (i+ws.length))∧Keeps (fun b=>b=a.block) h h'∧h'.size=h.size
  | [],h,vs,i,m,_,_=>⟨h,rfl,by simpa using m,Keeps.refl _ h,rfl⟩
  | w::ws,h,vs,i,m,hl,ho=>by
    simp only [List.length_cons] at hl
    have hi:i<vs.length:=by omega
    have hc:=m.1.2 i hi
    rw [List.getElem?_eq_getElem hi] at hc
    obtain ⟨h',h1,h2,h3,h4⟩:=stC_many (ws:=ws) (i:=i+1) (m.st1 hi w) (by simp; omega) (fun x hx=>ho x (List.mem_cons_of_mem _ hx))
    refine ⟨h',?_,?_,?_,by rw [h4,hset_size]⟩
    · simp only [Go.Lift.stC,hc,m.2 i hi,ho w (List.mem_cons_self ..),true_and,if_true]
      exact h1
    · have e:(vs.set i w).take (i+1)++ws++(vs.set i w).drop (i+1+ws.length)=vs.take i++(w::ws)++vs.drop (i+(ws.length+1)):=by
        rw [List.take_succ_eq_append_getElem (by simpa using hi),List.getElem_set_self,List.take_set_of_le (Nat.le_refl _),List.drop_set_of_lt (by omega)]
        simp [Nat.add_assoc,Nat.add_comm 1]
      rw [e] at h2
      simpa using h2
    · have k:=hset_keeps h (a.add i) w
      rw [add_block] at k
      exact k.trans h3
theorem al_size (h:Heap) (cs:Array Value) (t:TypeId):(al h cs t).size=h.size+1:=by simp [al]
theorem Mem.new (h:Heap) (vs:List Value) (t:TypeId):Mem (al h vs.toArray t) (top h) vs:=by
  have e:(Go.Lift.al h vs.toArray t)[h.size]? = some (.cells vs.toArray t (0,0)):=by simp [Go.Lift.al]
  refine ⟨⟨fun _=>rfl,fun i hi=>?_⟩,fun i hi=>?_⟩
  · rw [add_off rfl]
    simp [hcell,top,e]
  · rw [add_off rfl]
    simp [hfrozen,top,e]
end Go.Lift
end
