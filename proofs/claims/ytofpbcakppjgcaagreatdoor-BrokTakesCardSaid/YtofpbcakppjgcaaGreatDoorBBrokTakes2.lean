/- brokTakes_holds: all that the theorem needs, in a few texts (bundle.py; made of the texts that NOTES.md names). -/
import Derived.Below
import Derived.Laws.Sem
import Derived.LoopN
import Derived.Orders
section
namespace Go.Lift
abbrev Heap:=Array Obj
def hcell (h:Heap) (a:Addr):Option Value :=
  match h[a.block]? with
  | some (.cells c _ _)=>if a.spot.isSome then none else c[a.off]?
  | _=>none
def hfrozen (h:Heap) (a:Addr):Bool :=
  match h[a.block]? with
  | some (.cells _ _ (lo,hi))=>lo≤a.off && a.off<hi
  | _=>false
def hset (h:Heap) (a:Addr) (v:Value):Heap :=
  h.modify a.block fun
    | .cells c elem frozen=>.cells (if a.spot.isSome then c else c.setIfInBounds a.off v) elem frozen
    | o=>o
theorem cell_eq (w:World) (a:Addr):w.cell? a=hcell w.heap a:=rfl
theorem frozen_eq (w:World) (a:Addr):w.frozen? a=hfrozen w.heap a:=rfl
theorem setCell_heap (w:World) (a:Addr) (v:Value):(w.setCell a v).heap=hset w.heap a v:=rfl
structure Rest (w w':World):Prop where
  os:w'.os=w.os
  tape:w'.tape=w.tape
  output:w'.output=w.output
theorem Rest.refl (w:World):Rest w w:=⟨rfl,rfl,rfl⟩
theorem Rest.trans {a b c:World} (h:Rest a b) (k:Rest b c):Rest a c:=⟨k.os.trans h.os,k.tape.trans h.tape,k.output.trans h.output⟩
def CallsH (P:Program) (f:FuncId) (args:List Value) (K:Value→Heap→Prop) (h:Heap):Prop :=
  (match P.funcs[f]? with | some fn => fn.body.isSome && fn.name != "runtime.NumGoroutine" | none => false) = true ∧
  ∀ w:World,w.heap=h→Calls P f args.toArray w fun e w'=>∃ v,e=.returned v∧K v w'.heap∧Rest w w'
def CallV (P:Program) (v:Value) (args:List Value) (K:Value→Heap→Prop) (h:Heap):Prop :=
  ∃ f fs cs,v=.func (.func f) fs cs∧CallsH P f (fs.toList++args++cs.toList) K h
def SemH {α:Type} (P:Program) (s:Sem α) (K:α→Heap→Prop) (h:Heap):Prop :=
  ∀ w:World,w.heap=h→∃ v w',s.run P w=.ok v w'∧K v w'.heap∧Rest w w'
abbrev PEnv:=List (Nat × Value)
def get:PEnv→Nat→Option Value
  | [],_=>none
  | p::ρ,t=>match Nat.beq p.1 t with
    | true=>some p.2
    | false=>get ρ t
def PEnv.val (ρ:PEnv):Operand→Option Value
  | .tmp t=>get ρ t
  | .const v=>some v
  | .global g=>some (.pointer (some ⟨g,0,none⟩))
  | .func f=>some (.func (.func f) #[] #[])
def PEnv.vals (ρ:PEnv):List Operand→Option (List Value)
  | []=>some []
  | x::xs=>match ρ.val x with
    | some v=>match PEnv.vals ρ xs with
      | some vs=>some (v::vs)
      | none=>none
    | none=>none
def PEnv.put (ρ:PEnv) (dst:Option Tmp) (v:Value):PEnv :=
  match dst with
  | some d=>(d,v)::ρ
  | none=>ρ
structure Fits (N:Nat) (ρ:PEnv) (a:Act):Prop where
  size:a.tmps.size=N
  defers:a.defers=[]
  tmp:∀ t v,get ρ t=some v→a.tmps[t]? = some v
theorem get_cons (d t:Nat) (v:Value) (ρ:PEnv):get ((d,v)::ρ) t=if d=t then some v else get ρ t:=by
  simp only [get]
  by_cases h:d=t
  · subst h; simp
  · have:Nat.beq d t=false:=by
      cases hb:Nat.beq d t
      · rfl
      · exact absurd (Nat.eq_of_beq_eq_true hb) h
    simp [h,this]
theorem Fits.val {N:Nat}{ρ:PEnv}{a:Act} (h:Fits N ρ a) {x:Operand}{v:Value} (hx:ρ.val x=some v):a.eval x=v:=by
  cases x with
  | tmp t=>simp only [PEnv.val] at hx; simp [Act.eval,h.tmp t v hx]
  | const u=>simpa [PEnv.val,Act.eval] using hx
  | global g=>simpa [PEnv.val,Act.eval] using hx
  | func f=>simpa [PEnv.val,Act.eval] using hx
theorem Fits.vals {N:Nat}{ρ:PEnv}{a:Act} (h:Fits N ρ a):∀ {xs:List Operand}{vs:List Value},ρ.vals xs=some vs→xs.map a.eval=vs
  | [],vs,hx=>by simp only [PEnv.vals,Option.some.injEq] at hx; simp [← hx]
  | x::xs,vs,hx=>by
    simp only [PEnv.vals] at hx
    cases h1:ρ.val x with
    | none=>simp [h1] at hx
    | some v =>
      cases h2:ρ.vals xs with
      | none=>simp [h1,h2] at hx
      | some us =>
        simp only [h1,h2,Option.some.injEq] at hx
        subst hx
        simp [h.val h1,h.vals h2]
theorem Fits.put {N:Nat}{ρ:PEnv}{a:Act} (h:Fits N ρ a) (dst:Option Tmp) (v:Value) (hd:∀ d,dst=some d→d<N):Fits N (ρ.put dst v) (a.put dst v):=by
  cases dst with
  | none=>exact h
  | some d =>
    refine ⟨by simp [Act.put,h.size],h.defers,fun t u hu=>?_⟩
    simp only [PEnv.put,get_cons] at hu
    simp only [Act.put,Array.getElem?_setIfInBounds]
    by_cases he:d=t
    · subst he
      simp only [if_true,Option.some.injEq] at hu ⊢
      subst hu
      simp [h.size,hd d rfl]
    · simp only [he,if_false] at hu ⊢
      exact h.tmp t u hu
theorem Fits.drop {N:Nat}{ρ ρ':PEnv}{a:Act} (h:Fits N ρ a) (hs:∀ t v,get ρ' t=some v→get ρ t=some v):Fits N ρ' a :=
  ⟨h.size,h.defers,fun t v hv=>h.tmp t v (hs t v hv)⟩
def sl (s:ByteArray):List UInt8:=s.data.toList
def mkS (l:List UInt8):ByteArray:=⟨l.toArray⟩
def lb (l:List UInt8) (i:Int):Int:=(l.getD i.toNat 0).toNat
theorem sl_mkS (l:List UInt8):sl (mkS l)=l:=rfl
theorem mkS_sl (s:ByteArray):mkS (sl s)=s:=rfl
theorem sl_length (s:ByteArray):(sl s).length=s.size:=by simp [sl]
theorem sl_ext {a b:ByteArray} (h:sl a=sl b):a=b:=by rw [← mkS_sl a,← mkS_sl b,h]
theorem sl_append (a b:ByteArray):a++b=mkS (sl a++sl b):=by
  apply sl_ext
  rw [sl_mkS]
  simp [sl]
theorem sl_extract (s:ByteArray) (i j:Nat):s.extract i j=mkS (((sl s).take j).drop i):=by
  apply sl_ext
  rw [sl_mkS]
  simp [sl,List.extract_eq_take_drop,List.drop_take]
def exq (d:Option TypeDesc) (k:Value→Prop):Prop :=
  match d with
  | some (.int kd)=>∃ n,k (.int kd n)
  | some .bool=>∃ b,k (.bool b)
  | some .string=>∃ s:List UInt8,k (.string (mkS s))
  | some (.pointer _)=>∃ p,k (.pointer p)
  | some (.slice _)=>∃ a l c,k (.slice a l c)
  | some (.map _ _)=>∃ m,k (.map m)
  | some (.struct _)=>∃ cs:List Value,k (.agg cs.toArray)
  | some (.array _ _)=>∃ cs:List Value,k (.agg cs.toArray)
  | _=>∃ v,k v
theorem exq_spec {d:Option TypeDesc}{k:Value→Prop} (h:exq d k):∃ v,k v:=by
  unfold exq at h
  split at h <;> first
    | exact h
    | (obtain ⟨a,l,c,h⟩:=h; exact ⟨_,h⟩)
    | (obtain ⟨n,h⟩:=h; exact ⟨_,h⟩)
def exqs (P:Program):List TypeId→(List Value→Prop)→Prop
  | [],k=>k []
  | t::ts,k=>exq (P.underlying t) fun v=>exqs P ts fun vs=>k (v::vs)
theorem exqs_spec {P:Program}:∀ {ts:List TypeId}{k:List Value→Prop},exqs P ts k→∃ vs,k vs
  | [],_,h=>⟨[],h⟩
  | _::_,_,h=>let ⟨_,h⟩:=exq_spec h; let ⟨_,h⟩:=exqs_spec h; ⟨_,h⟩
def tyd (P:Program) (d:Option TypeDesc) (v:Value) (k:Value→Prop):Prop :=
  match d with
  | some (.tuple ts)=>exqs P ts.toList fun us=>v=.tuple us.toArray∧k (.tuple us.toArray)
  | some (.func _ _ _)=>k v
  | some (.interface _)=>k v
  | d=>exq d fun u=>v=u∧k u
theorem tyd_spec {P:Program}{d:Option TypeDesc}{v:Value}{k:Value→Prop} (h:tyd P d v k):k v:=by
  unfold tyd at h
  split at h
  · obtain ⟨us,e,h'⟩:=exqs_spec h; rw [e]; exact h'
  · exact h
  · exact h
  · obtain ⟨u,e,h'⟩:=exq_spec h; rw [e]; exact h'
def nextD (s:Bool) (v:Value) (k:Value→Prop):Prop:=(v=.tuple #[.bool false]∧k (.tuple #[.bool false]))∨match s with
  | true=>∃ x y:Int,v=.tuple #[.bool true,.int .i64 x,.int .i32 y]∧k (.tuple #[.bool true,.int .i64 x,.int .i32 y])
  | false=>∃ x y:Value,v=.tuple #[.bool true,x,y]∧k (.tuple #[.bool true,x,y])
theorem nextD_spec {s:Bool}{v:Value}{k:Value→Prop} (h:nextD s v k):k v:=by
  rcases h with ⟨e,h⟩ | h
  · rw [e]; exact h
  · cases s with
    | true=>obtain ⟨x,y,e,h⟩:=h; rw [e]; exact h
    | false=>obtain ⟨x,y,e,h⟩:=h; rw [e]; exact h
def entT (ops:List Oper) (d:Option Tmp) (i:Nat):Option TypeId :=
  match ops with
  | []=>none
  | o::os=>match o.op,d with
    | .extract (.tmp t) j,some d=>match Nat.beq t d,Nat.beq j i with
      | true,true=>some o.type
      | _,_=>entT os (some d) i
    | _,d=>entT os d i
def entD (P:Program) (t:Option TypeId) (v:Value) (k:Value→Prop):Prop :=
  match t with
  | some t=>tyd P (P.underlying t) v k
  | none=>k v
theorem entD_spec {P:Program}{t:Option TypeId}{v:Value}{k:Value→Prop} (h:entD P t v k):k v:=by
  cases t with
  | none=>exact h
  | some t=>exact tyd_spec h
def entryD (P:Program) (kt vt:Option TypeId) (u:Value) (k:Value→Prop):Prop:=∃ x y:Value,u=.tuple #[x,y]∧entD P kt x fun x=>entD P vt y fun y=>k (.tuple #[x,y])
theorem entryD_spec {P:Program}{kt vt:Option TypeId}{u:Value}{k:Value→Prop} (h:entryD P kt vt u k):k u:=by
  obtain ⟨x,y,e,h⟩:=h
  rw [e]
  exact entD_spec (P:=P) (t:=vt) (v:=y) (k:=fun y=>k (.tuple #[x,y])) (entD_spec h)
def one:Value→Bool
  | .agg _=>false
  | .tuple _=>false
  | _=>true
theorem one_eq (v:Value):v.oneCell'=one v:=by cases v <;> rfl
def scalar (d:Option TypeDesc):Bool :=
  match d with
  | some (.struct _)=>false
  | some (.array _ _)=>false
  | some (.tuple _)=>false
  | none=>false
  | _=>true
def rdC (h:Heap) (a:Addr) (i:Nat):Nat→Option (List Value)
  | 0=>some []
  | n+1=>match hcell h (a.add i) with
    | some v=>match rdC h a (i+1) n with
      | some l=>some (v::l)
      | none=>none
    | none=>none
def stC (h:Heap) (a:Addr) (i:Nat):List Value→Option Heap
  | []=>some h
  | v::vs=>match hcell h (a.add i) with
    | some _=>if hfrozen h (a.add i)=false∧one v=true then stC (hset h (a.add i) v) a (i+1) vs else none
    | none=>none
theorem run_loadCellsFrom (P:Program) (a:Addr) (w:World):∀ (n i:Nat) (acc:Array Value) (l:List Value),rdC w.heap a i n=some l →
    (loadCellsFrom a i n acc).run P w=.ok (acc++l.toArray) w
  | 0,i,acc,l,h=>by simp only [rdC,Option.some.injEq] at h; subst h; simp [loadCellsFrom]
  | n+1,i,acc,l,h=>by
    simp only [rdC] at h
    cases hc:hcell w.heap (a.add i) with
    | none=>simp [hc] at h
    | some v =>
      cases hr:rdC w.heap a (i+1) n with
      | none=>simp [hc,hr] at h
      | some l' =>
        simp only [hc,hr,Option.some.injEq] at h
        subst h
        simp only [loadCellsFrom,Sem.run_bind,run_load,cell_eq,hc,Result.andThen_ok]
        rw [run_loadCellsFrom P a w n (i+1) (acc.push v) l' hr]
        congr 1
        apply Array.toList_inj.1
        simp
theorem run_storeCells (P:Program) (a:Addr):∀ (vs:List Value) (i:Nat) (w:World) (h':Heap),stC w.heap a i vs=some h' →
    ∃ w',(storeCells a vs i).run P w=.ok () w'∧w'.heap=h'∧Rest w w'
  | [],i,w,h',h=>by simp only [stC,Option.some.injEq] at h; exact ⟨w,by simp [storeCells],h,Rest.refl w⟩
  | v::vs,i,w,h',h=>by
    simp only [stC] at h
    cases hc:hcell w.heap (a.add i) with
    | none=>simp [hc] at h
    | some u =>
      simp only [hc] at h
      split at h
      · rename_i hf
        have hone:v.oneCell'=true:=by rw [one_eq]; exact hf.2
        obtain ⟨w',h1,h2,h3⟩:=run_storeCells P a vs (i+1) (w.setCell (a.add i) v) h' (by rw [setCell_heap]; exact h)
        refine ⟨w',?_,h2,Rest.trans (b:=w.setCell (a.add i) v) ⟨rfl,rfl,rfl⟩ h3⟩
        simp only [storeCells,Sem.run_bind,run_store P w _ v _ hone,cell_eq,hc,frozen_eq,hf.1,Bool.false_eq_true,if_false,Result.andThen_ok]
        exact h1
      · cases h
theorem Rest.push (w:World) (o:Obj):Rest w { w with heap:=w.heap.push o }:=⟨rfl,rfl,rfl⟩
def zinfo (P:Program) (t:TypeId):Option Value :=
  match P.info? t with
  | some i=>i.zero
  | none=>none
def zrow (z:List Value) (len size:Nat):List Value:=(List.range (len * size)).map fun i=>z.getD (i % z.length) default
def places (P:Program) (d:Option TypeDesc) (i:Nat):Option (Nat × Nat) :=
  match d with
  | some (.struct fs)=>match fs[i]? with
    | some f=>some (f.offset,P.cellsOf f.type)
    | none=>none
  | some (.array _ e)=>some (i * P.cellsOf e,P.cellsOf e)
  | some (.slice e)=>some (i * P.cellsOf e,P.cellsOf e)
  | _=>none
def fillS (pl:Nat→Option (Nat × Nat)) (cells:List Value):List (Nat × Value)→Option (List Value)
  | []=>some cells
  | p::rest=>match pl p.1 with
    | some (off,1)=>match one p.2 with
      | true=>match Nat.blt off cells.length with
        | true=>fillS pl (cells.set off p.2) rest
        | false=>none
      | false=>none
    | _=>none
def known (P:Program) (d:Option TypeDesc):Bool :=
  match d with
  | some (.struct fs)=>fs.toList.all fun f=>(P.info? f.type).isSome
  | some (.array _ e)=>(P.info? e).isSome
  | _=>false
def PEnv.parts (ρ:PEnv):List (Nat × Operand)→Option (List (Nat × Value))
  | []=>some []
  | x::xs=>match ρ.val x.2 with
    | some v=>match PEnv.parts ρ xs with
      | some vs=>some ((x.1,v)::vs)
      | none=>none
    | none=>none
def allOne:List (Nat × Value)→Bool
  | []=>true
  | p::ps=>match one p.2 with
    | true=>allOne ps
    | false=>false
def inB (i:Int) (y:Nat):Prop:=0≤i∧i≤y
def sbyte (s:ByteArray) (i:Int):Int:=lb (sl s) i
def bitsI (op:BinOp) (k:IntKind) (x y:Int):Int :=
  match op with
  | .and=>k.wrap (BitVec.ofInt k.bits x &&& BitVec.ofInt k.bits y).toNat
  | .or=>k.wrap (BitVec.ofInt k.bits x ||| BitVec.ofInt k.bits y).toNat
  | .xor=>k.wrap (BitVec.ofInt k.bits x ^^^ BitVec.ofInt k.bits y).toNat
  | _=>k.wrap (BitVec.ofInt k.bits x &&& ~~~(BitVec.ofInt k.bits y)).toNat
def shlI (k:IntKind) (x y:Int):Int:=k.wrap (x * 2 ^ (min y.toNat k.bits))
def shrI (k:IntKind) (x y:Int):Int:=x.fdiv (2 ^ (min y.toNat k.bits))
def slA (a:Option Addr) (l cap size:Nat):Option Addr:=if cap=l then a else a.map (·.add (l * size))
def evBin (P:Program) (op:BinOp) (t:TypeId) (x y:Operand) (a b:Value) (k:Value→Prop) (g:Prop):Prop :=
  match P.underlying t with
  | some (.int _) =>
    match a,b with
    | .int ka m,.int kb n =>
      match op with
      | .shl=>0≤n∧k (.int ka (shlI ka m n))
      | .shr=>0≤n∧k (.int ka (shrI ka m n))
      | _=>if ka=kb then (match op with
        | .add=>k (.int ka (ka.wrap (m+n)))
        | .sub=>k (.int ka (ka.wrap (m - n)))
        | .mul=>k (.int ka (ka.wrap (m * n)))
        | .quo=>n≠0∧k (.int ka (ka.wrap (m.tdiv n)))
        | .rem=>n≠0∧k (.int ka (m.tmod n))
        | .eql=>k (.bool (m==n))
        | .neq=>k (.bool (m != n))
        | .lss=>k (.bool (decide (m<n)))
        | .leq=>k (.bool (decide (m≤n)))
        | .gtr=>k (.bool (decide (m > n)))
        | .geq=>k (.bool (decide (m ≥ n)))
        | op=>k (.int ka (bitsI op ka m n))) else False
    | _,_=>False
  | some .string =>
    match a,b with
    | .string m,.string n =>
      match op with
      | .add=>((((sl m).length+(sl n).length:Nat):Int)≤9223372036854775807)∧k (.string (mkS (sl m++sl n)))
      | .eql=>k (.bool (sl m==sl n))
      | .neq=>k (.bool (!(sl m==sl n)))
      | .lss=>k (.bool (Op.bytesLess (sl m) (sl n)))
      | .leq=>k (.bool (Op.bytesLess (sl m) (sl n) || sl m==sl n))
      | .gtr=>k (.bool (!(Op.bytesLess (sl m) (sl n) || sl m==sl n)))
      | .geq=>k (.bool (!Op.bytesLess (sl m) (sl n)))
      | _=>False
    | _,_=>False
  | some .bool =>
    match a,b with
    | .bool m,.bool n=>match op with
      | .eql=>k (.bool (m==n))
      | .neq=>k (.bool (!(m==n)))
      | _=>False
    | _,_=>False
  | some (.slice _) =>
    match y with
    | .const (.slice none _ _)=>match a with
      | .slice p _ _=>match op with
        | .eql=>k (.bool p.isNone)
        | .neq=>k (.bool (!p.isNone))
        | _=>False
      | _=>False
    | _=>g
  | some (.map _ _) =>
    match y with
    | .const (.map none)=>match a with
      | .map p=>match op with
        | .eql=>k (.bool p.isNone)
        | .neq=>k (.bool (!p.isNone))
        | _=>False
      | _=>False
    | _=>g
  | some (.pointer _) =>
    match y with
    | .const (.pointer none)=>match a with
      | .pointer p=>match op with
        | .eql=>k (.bool p.isNone)
        | .neq=>k (.bool (!p.isNone))
        | _=>False
      | _=>False
    | _=>g
  | _=>match x with | _=>g
def evConv (P:Program) (src dst:TypeId) (v:Value) (k:Value→Prop) (g:Prop):Prop :=
  match P.underlying src,P.underlying dst with
  | some (.int _),some (.int kd)=>match v with
    | .int _ n=>k (.int kd (kd.wrap n))
    | _=>False
  | some .string,some .string=>match v with
    | .string s=>k (.string s)
    | _=>False
  | _,_=>g
def evSlice (P:Program) (t:TypeId) (v:Value) (lo hi:Option Value) (k:Value→Prop) (g:Prop):Prop :=
  match P.underlying t with
  | some .string=>match v with
    | .string s=>match lo,hi with
      | none,none=>k (.string s)
      | some (.int _ l),none=>inB l (sl s).length∧k (.string (mkS ((sl s).drop l.toNat)))
      | none,some (.int _ h)=>inB h (sl s).length∧k (.string (mkS ((sl s).take h.toNat)))
      | some (.int _ l),some (.int _ h)=>inB h (sl s).length∧inB l h.toNat∧k (.string (mkS (((sl s).take h.toNat).drop l.toNat)))
      | _,_=>False
    | _=>False
  | some (.slice e)=>match v with
    | .slice a len cap=>match (P.info? e).isSome with
      | true=>match lo,hi with
        | none,none=>k (.slice (slA a 0 cap (P.cellsOf e)) len cap)
        | some (.int _ l),none=>inB l len∧k (.slice (slA a l.toNat cap (P.cellsOf e)) (len - l.toNat) (cap - l.toNat))
        | none,some (.int _ h)=>inB h cap∧k (.slice (slA a 0 cap (P.cellsOf e)) h.toNat cap)
        | some (.int _ l),some (.int _ h)=>inB h cap∧inB l h.toNat∧k (.slice (slA a l.toNat cap (P.cellsOf e)) (h.toNat - l.toNat) (cap - l.toNat))
        | _,_=>False
      | false=>False
    | _=>False
  | _=>g
def PEnv.opt (ρ:PEnv):Option Operand→Option (Option Value)
  | none=>some none
  | some x=>match ρ.val x with
    | some v=>some (some v)
    | none=>none
def unit (s:Sem Unit):Sem Value:=do s; pure undef
def evOp (P:Program) (o:Oper) (ρ:PEnv) (h:Heap) (k:Value→Heap→Prop):Prop :=
  let T:=P.underlying o.type
  let gen (s:Sem Value):Prop:=SemH P s (fun v h'=>tyd P T v fun u=>k u h') h
  match o.op with
  | .move x | .assign x=>match ρ.val x with
    | some v=>k v h
    | none=>False
  | .alloc e=>match zinfo P e with
    | some z=>k (.pointer (some ⟨h.size,0,none⟩)) (h.push (.cells z.cells e))
    | none=>False
  | .box e x=>match ρ.val x with
    | some v=>k (.pointer (some ⟨h.size,0,none⟩)) (h.push (.cells v.cells e))
    | none=>False
  | .build t ps=>match known P (P.underlying t),ρ.parts ps.toList,zinfo P t with
    | true,some vs,some z=>match allOne vs with
      | true=>match fillS (places P (P.underlying t)) z.cells.toList vs with
        | some cs=>k (.agg cs.toArray) h
        | none=>False
      | false=>∃ cs:List Value,Instr.fill (places P (P.underlying t)) z.cells vs=some cs.toArray∧k (.agg cs.toArray) h
    | _,_,_=>False
  | .buildSlice t len ps=>match P.underlying t with
    | some (.slice e)=>match (P.info? e).isSome,ρ.parts ps.toList,zinfo P e with
      | true,some vs,some z=>match Nat.ble (len * P.cellsOf e) 16777216,(len * P.cellsOf e==0) with
        | true,true=>match vs with
          | []=>k (.slice (some ⟨h.size,0,none⟩) len len) (h.push (.cells #[] e))
          | _=>False
        | true,false=>(match allOne vs with
        | true=>match fillS (places P (P.underlying t)) (zrow z.cells.toList len (P.cellsOf e)) vs with
          | some cs=>k (.slice (some ⟨h.size,0,none⟩) len len) (h.push (.cells cs.toArray e))
          | none=>False
        | false=>∃ cs:List Value,Instr.fill (places P (P.underlying t)) (zrow z.cells.toList len (P.cellsOf e)).toArray vs=some cs.toArray ∧
            k (.slice (some ⟨h.size,0,none⟩) len len) (h.push (.cells cs.toArray e)))
        | _,_=>False
      | _,_,_=>False
    | _=>False
  | .load t x=>match ρ.val x with
    | some (.pointer (some a))=>match scalar (P.underlying t) with
      | true=>exq (P.underlying t) fun u=>hcell h a=some u∧k u h
      | false=>match P.underlying t with
        | some (.struct _) | some (.array _ _)=>∃ cs:List Value,rdC h a 0 (P.cellsOf t)=some cs∧k (.agg cs.toArray) h
        | _=>False
    | _=>False
  | .store t x y=>match ρ.val x,ρ.val y with
    | some (.pointer (some a)),some v=>match scalar (P.underlying t) with
      | true=>match Nat.beq (P.cellsOf t) 1,one v with
        | true,true=>∃ h',stC h a 0 [v]=some h'∧k undef h'
        | _,_=>False
      | false=>match P.underlying t,v with
        | some (.struct _),.agg cs=>cs.toList.length=P.cellsOf t∧∃ h',stC h a 0 cs.toList=some h'∧k undef h'
        | some (.array _ _),.agg cs=>cs.toList.length=P.cellsOf t∧∃ h',stC h a 0 cs.toList=some h'∧k undef h'
        | _,_=>False
    | _,_=>False
  | .nilCheck x=>match ρ.val x with
    | some (.pointer p)=>∃ a,p=some a∧k (.pointer (some a)) h
    | _=>False
  | .binOp op t x y _=>match ρ.val x,ρ.val y with
    | some a,some b=>evBin P op t x y a b (fun v=>k v h) (gen (do eqGuard op t x y a b; Go.binOp op t a b))
    | _,_=>False
  | .unOp op _ x=>match op with
    | .not=>match ρ.val x with
      | some (.bool b)=>k (.bool (!b)) h
      | _=>False
    | .neg=>match ρ.val x with
      | some (.int kd n)=>k (.int kd (kd.wrap (0 - n))) h
      | _=>False
    | op=>match ρ.val x with
      | some v=>gen (Op.unary op v)
      | none=>False
  | .convert src dst x=>match ρ.val x with
    | some v=>evConv P src dst v (fun u=>k u h) (gen (Go.convert src dst v))
    | none=>False
  | .makeFunc fn first cap=>match ρ.vals first.toList,ρ.vals cap.toList with
    | some fs,some cs=>k (.func fn fs.toArray cs.toArray) h
    | _,_=>False
  | .makeMap _ r=>match r with
    | none=>k (.map (some h.size)) (h.push (.map #[] 0))
    | some _=>False
  | .makeSlice t l c=>match ρ.val l,ρ.val c with
    | some l,some c=>gen (Instr.makeSlice t l c)
    | _,_=>False
  | .slice t x lo hi mx=>match mx with
    | some _=>False
    | none=>match ρ.val x,ρ.opt lo,ρ.opt hi with
      | some v,some l,some u=>evSlice P t v l u (fun v=>k v h) (gen (Instr.sliceAt t v l u none))
      | _,_,_=>False
  | .fieldAddr s x f=>match P.underlying s with
    | some (.struct fs)=>match fs[f]?,ρ.val x with
      | some fd,some (.pointer (some a))=>match Nat.beq (P.cellsOf fd.type) 0 with
        | false=>k (.pointer (some (a.add fd.offset))) h
        | true=>False
      | _,_=>False
    | _=>False
  | .field t x f=>match P.underlying t with
    | some (.struct fs)=>match fs[f]?,ρ.val x with
      | some fd,some (.agg cs)=>match scalar (P.underlying fd.type) with
        | true=>exq (P.underlying fd.type) fun u=>cs.toList[fd.offset]? = some u∧k u h
        | false=>match P.underlying fd.type with
          | some (.struct _) | some (.array _ _)=>k (.agg ((cs.toList.drop fd.offset).take (P.cellsOf fd.type)).toArray) h
          | _=>False
      | _,_=>False
    | _=>False
  | .indexAddr t x ix=>match P.underlying t,ρ.val x,ρ.val ix with
    | some (.slice e),some (.slice a len _),some (.int _ i)=>match (P.info? e).isSome with
      | true=>∃ p,a=some p∧0≤i∧i<len∧k (.pointer (some (p.add (i.toNat * P.cellsOf e)))) h
      | false=>False
    | some (.array n e),some (.pointer (some p)),some (.int _ i)=>match (P.info? e).isSome with
      | true=>0≤i∧i<n∧k (.pointer (some (p.add (i.toNat * P.cellsOf e)))) h
      | false=>False
    | _,_,_=>False
  | .index t x ix=>match P.underlying t,ρ.val x,ρ.val ix with
    | some .string,some (.string s),some (.int _ i)=>0≤i∧i<(sl s).length∧k (.int .u8 (sbyte s i)) h
    | some (.array n e),some (.agg cs),some (.int _ i)=>match (P.info? e).isSome with
      | true=>0≤i∧i<n∧(match scalar (P.underlying e) with
        | true=>exq (P.underlying e) fun u=>cs.toList[i.toNat * P.cellsOf e]? = some u∧k u h
        | false=>match P.underlying e with
          | some (.struct _) | some (.array _ _)=>k (.agg ((cs.toList.drop (i.toNat * P.cellsOf e)).take (P.cellsOf e)).toArray) h
          | _=>False)
      | false=>False
    | _,_,_=>False
  | .lookup t x ix ok=>match ρ.val x,ρ.val ix with
    | some m,some v=>gen (Instr.lookup t m v ok)
    | _,_=>False
  | .mapUpdate t m x y | .insert t m x y=>match ρ.val m,ρ.val x,ρ.val y with
    | some m,some x,some y=>SemH P (unit (Instr.mapUpdate t m x y)) k h
    | _,_,_=>False
  | .mapEntry t m x=>match ρ.val m,ρ.val x with
    | some m,some x=>gen (Instr.mapEntry t m x)
    | _,_=>False
  | .entryStore t m s x=>match ρ.val m,ρ.val s,ρ.val x with
    | some m,some s,some x=>SemH P (unit (Instr.entryStore t m s x)) k h
    | _,_,_=>False
  | .range t x=>match ρ.val x with
    | some v=>SemH P (Instr.range t v) (fun u h'=>∃ a:Addr,u=.pointer (some a)∧k (.pointer (some a)) h') h
    | none=>False
  | .next it s=>match ρ.val it with
    | some v=>SemH P (Instr.next v s o.type) (fun v h'=>nextD s v fun u=>k u h') h
    | none=>False
  | .entry it=>match ρ.val it with
    | some v=>gen (Instr.entry v)
    | none=>False
  | .extract x i=>match ρ.val x with
    | some (.tuple vs)=>match vs.toList[i]? with
      | some v=>k v h
      | none=>False
    | _=>False
  | .call c=>match ρ.vals c.args.toList with
    | some vs=>match c.callee with
      | .value (.func f)=>CallsH P f vs (fun v h'=>tyd P T v fun u=>k u h') h
      | .value x=>match ρ.val x with
        | some v=>CallV P v vs (fun v h'=>tyd P T v fun u=>k u h') h
        | none=>False
      | .builtin .len=>match c.argTypes[0]?,vs with
        | some t,[v]=>match P.underlying t,v with
          | some .string,.string s=>k (.int .i64 (sl s).length) h
          | some (.slice _),.slice _ n _=>k (.int .i64 n) h
          | some (.map _ _),v=>gen (Builtin.len_ c.argTypes o.type #[v])
          | some (.array n _),_=>k (.int .i64 n) h
          | _,_=>False
        | _,_=>False
      | .builtin .cap=>match c.argTypes[0]?,vs with
        | some t,[v]=>match P.underlying t,v with
          | some (.slice _),.slice _ _ n=>k (.int .i64 n) h
          | _,_=>False
        | _,_=>False
      | .builtin .append=>gen (Builtin.append_ c.argTypes o.type vs.toArray)
      | .builtin .copy=>gen (Builtin.copy_ c.argTypes o.type vs.toArray)
      | .builtin .delete=>SemH P (Builtin.delete_ c.argTypes o.type vs.toArray) k h
      | .builtin .clear=>SemH P (Builtin.clear_ c.argTypes o.type vs.toArray) k h
      | .builtin .min=>match vs with
        | [.int ka m,.int _ n]=>k (.int ka (if n<m then n else m)) h
        | vs=>gen (Builtin.min_ c.argTypes o.type vs.toArray)
      | .builtin .max=>match vs with
        | [.int ka m,.int _ n]=>k (.int ka (if n > m then n else m)) h
        | vs=>gen (Builtin.max_ c.argTypes o.type vs.toArray)
      | _=>False
    | none=>False
  | _=>False
end Go.Lift
end
