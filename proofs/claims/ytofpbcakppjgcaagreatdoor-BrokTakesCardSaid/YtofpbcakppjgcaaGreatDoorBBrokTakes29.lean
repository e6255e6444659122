/- brokTakes_holds: all that the theorem needs, in a few texts (bundle.py; made of the texts that NOTES.md names). -/
import Derived.Below
import Derived.Carry
import Derived.ChangeOld
import Derived.ChangeShapes
import Derived.DeepKeys4
import Derived.KernelRfl
import Derived.Laws.Append
import Derived.Laws.Bits64
import Derived.Laws.BitsAllLaws
import Derived.Laws.BitsLemmas
import Derived.Laws.IdiomStrings
import Derived.Laws.Sem
import Derived.Laws.Strings
import Derived.Laws.StructEq
import Derived.Lib.ItoaNum
import Derived.LoopIn
import Derived.LoopN
import Derived.LoopNIn
import Derived.MapKept
import Derived.Maps.AppendAt
import Derived.Maps.RangeRun
import Derived.OpenShut
import Derived.Orders
import Derived.OwnWalkIn
import Derived.RangeFuncGives
import Derived.RangeFuncSeq
import Derived.RegionIn
import Derived.Shelf.Abstract
import Derived.Shelf.Lay
import Derived.Shelf.LaysM
import Derived.Shelf.SlIter.Collect
import Derived.Shelf.SlMaps.Clone
import Derived.Shelf.Slices.Cells
import Derived.Shelf.Slices.CompactS
import Derived.Shelf.Slices.In.SortNone
import Derived.Shelf.Small.Bits
import Derived.Shelf.Small.Strs
import Derived.Shelf.Sort.Plain
import Derived.Shelf.Strconv.Itoa0
import Derived.Shelf.Strings.Count
import Derived.Shelf.Strings.Explode
import Derived.Shelf.Strings.RuneCount
import Derived.Shelf.Strings.Search1
import Derived.Shelf.Strings.Search2
import Derived.Shelf.Strings.Search3
import Derived.Shelf.Strings.Shaped
import Derived.Shelf.Strings.Split
import Derived.Shelf.Strings.SplitShaped
import Derived.Shelf.Unicode.Decode
import Derived.Shelf.Unicode.DecodeAny
import Derived.Shelf.Unicode.DecodeSlow
import Derived.Shelf.Utf8.RuneCount
import Derived.Sort.KeysCollected
import Derived.Sort.MapsRangeIn
import Derived.TacticsInMore
import Derived.Test.YtofpbcakppjgcaaGreatDoorChecked
import Derived.Test.YtofpbcakppjgcaaGreatDoorProg
import Derived.WalkKit
import Derived.WideLaws
import Derived.WideShapes
import Derived.Test.YtofpbcakppjgcaaGreatDoorBBrokTakes2
import Derived.Test.YtofpbcakppjgcaaGreatDoorBBrokTakes3
import Derived.Test.YtofpbcakppjgcaaGreatDoorBBrokTakes4
import Derived.Test.YtofpbcakppjgcaaGreatDoorBBrokTakes5
import Derived.Test.YtofpbcakppjgcaaGreatDoorBBrokTakes6
import Derived.Test.YtofpbcakppjgcaaGreatDoorBBrokTakes7
import Derived.Test.YtofpbcakppjgcaaGreatDoorBBrokTakes8
import Derived.Test.YtofpbcakppjgcaaGreatDoorBBrokTakes9
import Derived.Test.YtofpbcakppjgcaaGreatDoorBBrokTakes10
import Derived.Test.YtofpbcakppjgcaaGreatDoorBBrokTakes11
import Derived.Test.YtofpbcakppjgcaaGreatDoorBBrokTakes12
import Derived.Test.YtofpbcakppjgcaaGreatDoorBBrokTakes13
import Derived.Test.YtofpbcakppjgcaaGreatDoorBBrokTakes14
import Derived.Test.YtofpbcakppjgcaaGreatDoorBBrokTakes15
import Derived.Test.YtofpbcakppjgcaaGreatDoorBBrokTakes16
import Derived.Test.YtofpbcakppjgcaaGreatDoorBBrokTakes17
import Derived.Test.YtofpbcakppjgcaaGreatDoorBBrokTakes18
import Derived.Test.YtofpbcakppjgcaaGreatDoorBBrokTakes19
import Derived.Test.YtofpbcakppjgcaaGreatDoorBBrokTakes20
import Derived.Test.YtofpbcakppjgcaaGreatDoorBBrokTakes21
import Derived.Test.YtofpbcakppjgcaaGreatDoorBBrokTakes22
import Derived.Test.YtofpbcakppjgcaaGreatDoorBBrokTakes23
import Derived.Test.YtofpbcakppjgcaaGreatDoorBBrokTakes24
import Derived.Test.YtofpbcakppjgcaaGreatDoorBBrokTakes25
import Derived.Test.YtofpbcakppjgcaaGreatDoorBBrokTakes26
import Derived.Test.YtofpbcakppjgcaaGreatDoorBBrokTakes27
import Derived.Test.YtofpbcakppjgcaaGreatDoorBBrokTakes28
section
set_option linter.unusedVariables false
set_option linter.unusedSimpArgs false
namespace Go.Proofs.YtofpbcakppjgcaaGreatDoor.Pr
open Go Go.Lift Go.Proofs
def tW (i:Nat):LRow:=rowF i fun j=>((j:Int)+1,(false,false))
def tM (i:Nat):List (Int × MsgE):=rowF i fun j=>((j:Int)+1,(tkMsg j,1,1))
theorem tW_mem {i:Nat}{x:Int × (Bool × Bool)} (h:x∈tW i):∃ j:Nat,j<i∧x=((j:Int)+1,(false,false)):=by
  obtain ⟨j,hj,e⟩:=List.mem_map.1 h
  exact ⟨j,List.mem_range.1 hj,e.symm⟩
theorem tM_mem {i:Nat}{x:Int × MsgE} (h:x∈tM i):∃ j:Nat,j<i∧x=((j:Int)+1,(tkMsg j,1,1)):=by
  obtain ⟨j,hj,e⟩:=List.mem_map.1 h
  exact ⟨j,List.mem_range.1 hj,e.symm⟩
theorem tW_none (i:Nat):get? (tW i) ((i:Int)+1)=none:=get?_none.2 fun h=>by
  obtain ⟨x,hx,e⟩:=List.mem_map.1 h
  obtain ⟨j,hj,rfl⟩:=tW_mem hx
  simp only at e
  omega
theorem tM_none (i:Nat):(i:Int)+1 ∉ (tM i).map Prod.fst:=fun h=>by
  obtain ⟨x,hx,e⟩:=List.mem_map.1 h
  obtain ⟨j,hj,rfl⟩:=tM_mem hx
  simp only at e
  omega
theorem tW_succ (i:Nat):ins (tW i) ((i:Int)+1) (false,false)=tW (i+1):=by
  unfold tW
  rw [rowF_succ,ins_end]
  intro x hx
  obtain ⟨j,hj,rfl⟩:=tW_mem (i:=i) hx
  show (j:Int)+1<_
  omega
theorem tM_succ (i:Nat):upd (tM i) ((i:Int)+1) (tkMsg i,1,1)=tM (i+1):=by
  rw [upd_none (tM_none i)]
  unfold tM
  rw [rowF_succ]
theorem tM_nodup:∀ i:Nat,((tM i).map Prod.fst).Nodup
  | 0=>by decide
  | i+1=>by rw [← tM_succ]; exact (upd_keys (tM_nodup i)).1
theorem tW_up:∀ i:Nat,Up (tW i)
  | 0=>by unfold tW rowF; exact up_iff.2 (by simp)
  | i+1=>by rw [← tW_succ]; exact (tW_up i).ins (get?_none.1 (tW_none i))
theorem tM_get:∀ (i j:Nat),j<i→get? (tM i) ((j:Int)+1)=some (tkMsg j,1,1)
  | i+1,j,h=>by
    rw [← tM_succ,get?_upd]
    by_cases e:j=i
    · subst e; rw [if_pos rfl]
    · rw [if_neg (by omega)]; exact tM_get i j (by omega)
theorem tW_ready (i:Nat):readyL (tW i)=(List.range' 0 i).map fun j=>(((j:Nat):Int)+1,false):=by
  unfold readyL tW rowF
  rw [← List.range_eq_range']
  rw [List.filter_eq_self.2 (by intro x hx; obtain ⟨j,_,rfl⟩:=List.mem_map.1 hx; rfl),List.map_map]
  rfl
theorem tk_start (n:Nat):TK n 0 none (tW n) (tM n):=by
  refine ⟨by rw [tW_ready]; simp,tW_up n,?_,Nat.zero_le _⟩
  intro e he
  rw [tW_ready] at he
  obtain ⟨j,hj,rfl⟩:=List.mem_map.1 he
  have:=List.mem_range'_1.1 hj
  exact ⟨j,rfl,by omega,tM_get n j (by omega)⟩
theorem u8w (i:Nat):IntKind.u8.wrap (i:Int)=(((UInt8.ofNat i).toNat:Nat):Int):=by
  have h:IntKind.u8.wrap (i:Int)=(i:Int) % 256:=by simp [IntKind.wrap,IntKind.signed,IntKind.bits]
  rw [h]
  simp
def agI:Option Nat→Int | none=>-1 | some a=>(a:Int)
theorem agI_ge (a:Option Nat):decide (agI a ≥ 0)=a.isSome:=by cases a <;> simp [agI]
theorem agI_lt:∀ a:Option Nat,decide (agI a<0)=!a.isSome
  | none=>rfl
  | some a=>decide_eq_false (by show ¬ (a:Int)<0; omega)
theorem bld_hold':(fun a b:Value=>Instr.fill (Lift.places P (P.underlying T.sl_api_Hold)) (zrow (zcl P T.api_Hold).toList 1 (P.cellsOf T.api_Hold)).toArray [(0,.agg (List.toArray [a,b]))])=fun a b=>some (List.toArray [a,b]):=by kernel_rfl
theorem bld_hold (x:Oct × Int):bldS P T.sl_api_Hold T.api_Hold 1 [(0,.agg (List.toArray (hc x)))] (hc x):=congrFun (congrFun bld_hold' _) _
section
variable {K:KT}{L:List Asr}{h:Heap}{b:Addr}{s:SV}{xs:List Int}
abbrev TL (s:SV) (xs:List Int) (L:List Asr):List Asr:=Im 1 s (xs.map fun n=>.int .i64 n)::L
theorem takes_loop {h0:Heap} (g:G h0) (m:Old h0∈L) {n:Nat} (hn:n<16) (hK:∀ h',St (TL s xs L) h'→K (.bool true) h') :
    ∀ (fuel i next:Nat) (again:Option Nat) (W:LRow) (M:List (Int × MsgE)) (N:Nat) (h:Heap),xs.length - i<fuel→i≤xs.length→i≤40→TK n next again W M→(M.map Prod.fst).Nodup→(∀ a,again=some a→a<n) →
      BkOk N (tkM W M ((n:Int)+1))→N≤100+2 * i→St (BkW b (tkM W M ((n:Int)+1))::TL s xs L) h→qag.L3 K fuel n s.1 s.2.1 s.2.2 (some b) next (agI again) i h
  | 0,_,_,_,_,_,_,_,hf,_,_,_,_,_,_,_,_=>absurd hf (Nat.not_lt_zero _)
  | fuel+1,i,next,again,W,M,N,h,hf,hi,h40,tk,hm,ha,ok,hN,S=>by
    have ls:s.2.1=xs.length:=by have:=(S.isl 1 s).1; simpa using this.symm
    have outF:qag.j4 K (qag.L3 K fuel) n s.1 s.2.1 s.2.2 (some b) next (agI again) i false h:=by
      unfold qag.j4
      exact ifF rfl (hK h S.tl)
    unfold qag.L3
    by_cases hlt:i<xs.length
    · refine ifT (by simp; omega) ?_
      by_cases h4:i<40
      · rw [decide_eq_true (show (i:Int)<40 by omega)]
        obtain ⟨x,hx⟩:∃ x,xs[i]? = some x:=⟨_,List.getElem?_eq_getElem hlt⟩
        have hv:(xs.map fun n=>Value.int .i64 n)[i]? = some (.int .i64 x):=by rw [List.getElem?_map,hx]; rfl
        have rd:∀ {h'}{L'} (S':St L' h') [In (Im 1 s) L' (xs.map fun n=>Value.int .i64 n)] {R:Addr→Prop},(∀ a,s.1=some a→hcell h' (a.add (Int.toNat (i:Int) * 1))=some (.int .i64 x)→R a)→∃ a,s.1=some a∧(0:Int)≤(i:Int)∧(i:Int)<((s.2.1:Nat):Int)∧R a:=fun S' _ _ hR=>ixV (S'.isl 1 s) rfl hv hR
        unfold qag.j4
        refine ifT rfl (rd S fun a ea ca=>⟨_,ca,?_⟩)
        let d:DeedM:={ deed0 with kind:=9,queue:=nQ,noack:=bitsI .and .i64 x 1==1 }
        have okT:=doP_ok ok d
        refine doTake (d:=d) (mb:=snil) (hs:=snil) rfl ok (by omega) S fun so sq mb h1 S1=>⟨_,rfl,didBox S1 fun h2 S2=>?_⟩
        rw [← doP_take (m:=tkM W M ((n:Int)+1)) (d:=d) rfl] at S2
        generalize top h1=da at *
        have hwant:((if again.isSome then agI again else (next:Int)):Int)=((again.getD next:Nat):Int):=by cases again <;> rfl
        have nx0:(next:Int)≤n:=by have:=tk.le; omega
        have j6:qag.j6 K (qag.L3 K fuel) n s.1 s.2.1 s.2.2 (some b) next (agI again) i da ((again.getD next:Nat):Int) h2:=by
          unfold qag.j6
          by_cases hw:n≤again.getD next
          · rw [tk_none tk (d:=d) rfl rfl hw ha] at S2
            refine ifT (by simp; omega) ⟨_,S2.rc da 1 rfl,ifT rfl ⟨_,_,_,S2.rc da 2 rfl,?_⟩⟩
            have lo:so.2.1=0:=OpsA.len S2.p1
            unfold bd qag.j7
            rw [lo]
            exact hK h2 (show St (Bx da _::OpsA so _::Im 1 sq _::Im 1 mb _::BkW b _::TL s xs L) h2 from S2).to
          · have hlt':again.getD next<n:=by omega
            obtain ⟨W',M',ops,e,lo,tk',hm',hb⟩:=tk_take (nx:=(n:Int)+1) tk (d:=d) rfl rfl rfl hlt' hm
            rw [e] at S2 okT
            generalize hwn:again.getD next=want at *
            have hl:((if again.isSome then n - next else n - next - 1:Nat):Int)=if again.isSome then (n:Int) - next else (n:Int) - next - 1:=by cases again <;> simp at hwn ⊢ <;> omega
            rw [hl] at S2
            simp only at S2 okT
            have S3:St (Bx da (dcells { did0 with n:=if again.isSome then (n:Int) - next else (n:Int) - next - 1,ent:=((want:Int)+1,again.isSome),msg:=tkMsg want,ops:=ops } so sq mb)::OpsA so ops::Im 1 mb (u8s [UInt8.ofNat want])::BkW b (tkM W' M' ((n:Int)+1))::TL s xs L) h2:=(show St (Bx da _::OpsA so ops::Im 1 sq _::Im 1 mb (u8s [UInt8.ofNat want])::BkW b _::TL s xs L) h2 from S2).to
            have loS:so.2.1=if d.noack then 2 else 0:=by have:=OpsA.len S3.p1; omega
            have lb:mb.2.1=1:=by have:=(S3.isl 1 mb).1; simpa [u8s] using this.symm
            have hx2:bitsI .and .i64 x 1=x % 2:=m1 x
            -- what goes on
            have go:qag.j9 K (qag.L3 K fuel) n s.1 s.2.1 s.2.2 (some b) next (agI again) i da want false h2:=by
              unfold qag.j9
              refine ifF rfl ?_
              have nxt:∀ (again':Option Nat) (W2:LRow) (M2:List (Int × MsgE)) (N2:Nat) (h':Heap),TK n (if again.isSome then next else next+1) again' W2 M2→(M2.map Prod.fst).Nodup→(∀ a,again'=some a→a<n)→BkOk N2 (tkM W2 M2 ((n:Int)+1))→N2≤100+2 * (i+1)→St (BkW b (tkM W2 M2 ((n:Int)+1))::TL s xs L) h' →
                  qag.j5 K (qag.L3 K fuel) n s.1 s.2.1 s.2.2 (some b) (if again.isSome then next else next+1:Nat) (agI again') i h':=fun again' W2 M2 N2 h' a1 a2 a3 a4 a5 a6=>by
                unfold qag.j5 bd
                rw [show IntKind.i64.wrap ((i:Int)+1)=((i+1:Nat):Int) from by rw [wrapI (by omega) (by omega)]; omega]
                exact takes_loop g m hn hK fuel (i+1) _ again' W2 M2 N2 h' (by omega) (by omega) (by omega) a1 a2 a3 a4 a5 a6
              have j11f:qag.j11 K (qag.L3 K fuel) n s.1 s.2.1 s.2.2 (some b) (if again.isSome then next else next+1:Nat) (-1) i da want false h2:=by
                unfold qag.j11
                exact ifF rfl (nxt none W' M' _ h2 tk' hm' (fun a e=>by cases e) okT (by omega) S3.to)
              have j10:qag.j10 K (qag.L3 K fuel) n s.1 s.2.1 s.2.2 (some b) (if again.isSome then next else next+1:Nat) i da want h2:=by
                unfold qag.j10
                refine rd S3 fun a ea ca=>⟨_,ca,?_⟩
                cases hz:(bitsI .and .i64 x 1==0) with
                | false=>exact ifF rfl j11f
                | true =>
                  refine ifT rfl (rd S3 fun a ea ca=>⟨_,ca,?_⟩)
                  cases hz2:(bitsI .and .i64 x 2==2) with
                  | false=>exact j11f
                  | true =>
                    unfold qag.j11
                    have hna:d.noack=false:=by
                      show (bitsI .and .i64 x 1==1)=false
                      rw [beq_iff_eq.1 hz]; rfl
                    obtain ⟨W2,tk2,hb2⟩:=hb hna
                    refine ifT rfl ⟨_,S3.rcc da 9 0 rfl,_,bld_hold (nQ,(want:Int)+1),bdQ S3 (hc (nQ,(want:Int)+1)) fun S4=>?_⟩
                    let d2:DeedM:={ deed0 with kind:=11,holds:=[(nQ,(want:Int)+1)] }
                    have ok2:=doP_ok okT d2
                    rw [hb2 d2 rfl rfl] at ok2
                    have ef:[(nQ,(want:Int)+1)].flatMap hc=hc (nQ,(want:Int)+1):=by simp
                    rw [← ef] at S4
                    have S5:St (Im 2 (some (top h2),1,1) ([(nQ,(want:Int)+1)].flatMap hc)::BkW b (tkM W' M' ((n:Int)+1))::TL s xs L) _:=(S4.bxOw (n:=1) (sz:=2) rfl).im.to
                    refine doSettle (d:=d2) (mb:=snil) (hs:=(some (top h2),1,1)) (L:=Im 2 (some (top h2),1,1) ([(nQ,(want:Int)+1)].flatMap hc)::TL s xs L) (.inr rfl) okT (by omega) S5.p1 (List.mem_cons_self ..) (by show 1≤100000; decide) fun so2 sq2 mb2 h3 S6=>⟨_,rfl,?_⟩
                    have e2:settleD (tkM W' M' ((n:Int)+1)) d2 (d2.kind==11)=(tkM W2 M' ((n:Int)+1),did0):=by
                      have:=hb2 d2 rfl rfl
                      rw [doP_back rfl] at this
                      exact this
                    rw [e2] at S6
                    exact nxt (some want) W2 M' _ h3 tk2 hm' (fun a e=>by cases e; exact hlt') ok2 (by omega) (show St (OpsA so2 _::Im 1 sq2 _::Im 1 mb2 _::BkW b (tkM W2 M' ((n:Int)+1))::Im 2 (some (top h2),1,1) _::TL s xs L) h3 from S6).to
              rw [agI_lt]
              cases again with
              | some a=>exact ifF rfl j10
              | none =>
                refine ifT rfl ?_
                unfold bd
                rw [show IntKind.i64.wrap ((next:Int)+1)=((next+1:Nat):Int) from by rw [wrapI (by omega) (by omega)]; omega]
                exact j10
            have hna:(!((((so.2.1:Nat):Int)==2)==(bitsI .and .i64 x 1==1)))=false:=by
              rw [loS]
              show (!(((((if (bitsI .and .i64 x 1==1)=true then 2 else 0:Nat):Int))==2)==(bitsI .and .i64 x 1==1)))=false
              cases (bitsI .and .i64 x 1==1) <;> rfl
            have j8:qag.j8 K (qag.L3 K fuel) n s.1 s.2.1 s.2.2 (some b) next (agI again) i da want (if again.isSome then (n:Int) - next else (n:Int) - next - 1) h2:=by
              unfold qag.j8
              refine ⟨_,S3.rc da 0 rfl,ifF' rfl ?_⟩
              refine S3.rdP 9 (n:=2) (by show 11≤11; decide) ?_
              rw [agI_ge,show IntKind.u64.wrap (IntKind.i64.wrap ((want:Int)+1))=(want:Int)+1 from by rw [wrapI (by omega) (by omega),IntKind.wrap_u64]; omega]
              refine entNeqS (a:=((want:Int)+1,again.isSome)) (b:=((want:Int)+1,again.isSome)) _ _ ⟨_,rfl,ifF' (by simp) ⟨_,S3.rc da 1 rfl,ifF' (by simp) ⟨_,_,_,S3.rcc da 4 4 rfl,ifF' (by rw [lb]; rfl) ⟨_,_,_,S3.rcc da 4 4 rfl,?_⟩⟩⟩⟩
              refine ixV (n:=0) (w:=.int .u8 ((UInt8.ofNat want).toNat:Nat)) (S3.isl 1 mb) rfl rfl fun a ea ca=>⟨_,ca,ifF' (by rw [u8w]; simp) (rd S3 fun a ea ca=>⟨⟨_,_,_,S3.rc da 2 rfl,_,ca,?_⟩,⟨_,ca,_,_,_,S3.rc da 2 rfl,?_⟩⟩)⟩
              · rw [hna]; exact go
              · rw [hna]; exact go
            refine ifF (by simp; omega) ?_
            unfold bd
            rw [agI_ge]
            cases again with
            | some a=>exact ifT rfl (by rw [wrapI (by omega) (by omega)]; exact j8)
            | none=>exact ifF rfl (by rw [wrapI (n:=(n:Int) - next) (by omega) (by omega),wrapI (by omega) (by omega)]; exact j8)
        rw [agI_ge]
        rw [← hwant] at j6
        cases again with
        | some a=>exact ifT rfl j6
        | none=>exact ifF rfl j6
      · rw [decide_eq_false (show ¬ (i:Int)<40 by omega)]
        exact outF
    · exact ifF (by simp; omega) outF
theorem puts_in {h0:Heap} (g:G h0) (m:Old h0∈L) {n:Nat} (hn:n<16) (hK:∀ h',St (TL s xs L) h'→K (.bool true) h') :
    ∀ (fuel i:Nat) (h:Heap),n - i<fuel→i≤n→BkOk (i+1) (tkM (tW i) (tM i) ((i:Int)+1))→St (BkW b (tkM (tW i) (tM i) ((i:Int)+1))::TL s xs L) h →
      qag.L12 K fuel n s.1 s.2.1 s.2.2 (some b) i h
  | 0,_,_,hf,_,_,_=>absurd hf (Nat.not_lt_zero _)
  | fuel+1,i,h,hf,hi,ok,S=>by
    unfold qag.L12
    by_cases hlt:i<n
    · refine ifT (by simp; omega) (bdQ S [.int .u8 (IntKind.u8.wrap (i:Int))] fun S1=>?_)
      rw [u8w] at S1
      have S2:St (Im 1 (some (top h),1,1) (u8s [UInt8.ofNat i])::BkW b (tkM (tW i) (tM i) ((i:Int)+1))::TL s xs L) _:=(S1.bxOw (n:=1) (sz:=1) rfl).im
      refine ⟨_,bld_deed 8 (tkMsg i) (some (top h),1,1),?_⟩
      have ok2:=doP_ok ok (dPut (tkMsg i))
      obtain ⟨v,ev⟩:=tk_put (M:=tM i) (tW_none i) (by omega) i
      rw [ev] at ok2
      refine doPut g (List.mem_cons_of_mem _ (List.mem_cons_of_mem _ m)) (d:=dPut (tkMsg i)) (mb:=(some (top h),1,1)) (hs:=snil) (L:=Im 1 (some (top h),1,1) (u8s [UInt8.ofNat i])::TL s xs L) rfl ok (by omega) (by show 0≤blim; decide) S2.p1 (List.mem_cons_self ..) fun so sq mb h3 S3=>⟨_,rfl,?_⟩
      rw [← doP_put (m:=tkM (tW i) (tM i) ((i:Int)+1)) (d:=dPut (tkMsg i)) rfl,ev] at S3
      rw [tW_succ,tM_succ] at S3 ok2
      unfold bd
      rw [show IntKind.i64.wrap ((i:Int)+1)=((i+1:Nat):Int) from by rw [wrapI (by omega) (by omega)]; omega]
      rw [show ((i:Int)+1+1)=((i+1:Nat):Int)+1 by omega] at S3 ok2
      exact puts_in g m hn hK fuel (i+1) h3 (by omega) (by omega) ok2 (show St (OpsA so _::Im 1 sq _::Im 1 mb _::BkW b (tkM (tW (i+1)) (tM (i+1)) (((i+1:Nat):Int)+1))::Im 1 (some (top h),1,1) _::TL s xs L) h3 from S3).to
    · have:i=n:=by omega
      subst this
      refine ifF (by simp) ?_
      unfold qag.j2
      exact ⟨xs.length+1,takes_loop g m hn hK (xs.length+1) 0 0 none _ _ _ h (by omega) (Nat.zero_le _) (by omega) (tk_start i) (tM_nodup i) (fun a e=>by cases e) ok (by omega) S⟩
end
theorem BrokTakes.law {h:Heap} (a:Int) (wa:-9223372036854775808≤a∧a<9223372036854775808) (s:SV) (xs:List Int) (sl:Sl 1 h s.1 s.2.1 (xs.map fun n=>.int .i64 n)) (le:s.2.1≤s.2.2) (mx:s.2.2≤maxLen) (wx:∀ x∈xs,(Lit.int .i64 x).wf=true) (g:G h) :
    CallsH P F.qag [.int .i64 a,s.v] (fun v h'=>v=.bool true∧Kept h h') h:=by
  refine qag.ok ?_
  unfold qag.p0
  have S0:St (TL s xs [Old h]) h:=(St.old h).imOld (List.mem_cons_self ..) sl le
  have m:Old h∈[Old h]:=List.mem_cons_self ..
  refine newB S0 fun h1 b S1=>⟨_,rfl,ifF' rfl (awake20S g (List.mem_cons_of_mem _ (List.mem_cons_of_mem _ m)) S1 fun h2 S2=>⟨_,rfl,?_⟩)⟩
  unfold qag.j1
  refine ifF rfl ?_
  refine doQueue (d:=dQueue nQ true) (mb:=snil) (hs:=snil) (m:=bk0) rfl bk0_ok (by decide) S2 fun so sq mb h3 S3=>⟨_,rfl,?_⟩
  rw [declQP_q] at S3
  have e15:bitsI .and .i64 a 15=((a % 16).toNat:Nat):=by rw [show bitsI .and .i64 a 15=a % 16 from mask_i64 a 4 (by decide)]; omega
  unfold bd
  rw [e15]
  refine ⟨(a % 16).toNat+1,?_⟩
  simp only at S3
  exact puts_in (xs:=xs) (s:=s) (L:=[Old h]) (n:=(a % 16).toNat) g m (by omega) (fun h' S'=>⟨rfl,S'.tl.keptOld m⟩) _ 0 h3 (by omega) (Nat.zero_le _) tkM0_ok (show St (BkW b (tkM [] [] 1)::TL s xs [Old h]) h3 from (show St (OpsA so _::Im 1 sq _::Im 1 mb _::BkW b (tkM [] [] 1)::TL s xs [Old h]) h3 from S3).to)
end Go.Proofs.YtofpbcakppjgcaaGreatDoor.Pr
end
