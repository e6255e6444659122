/- brokTakes_holds: all that the theorem needs, in a few texts (bundle.py; made of the texts that NOTES.md names). -/
import Derived.Below
import Derived.KernelRfl
import Derived.Laws.Append
import Derived.Laws.BitsLemmas
import Derived.Laws.Sem
import Derived.Laws.Strings
import Derived.LoopN
import Derived.Orders
import Derived.Shelf.LaysM
import Derived.Shelf.Slices.Cells
import Derived.Shelf.Slices.CompactS
import Derived.Shelf.Slices.In.SortNone
import Derived.Shelf.Small.Bits
import Derived.Shelf.Small.Strs
import Derived.Shelf.Sort.Plain
import Derived.Shelf.Strconv.Itoa0
import Derived.Shelf.Strings.Count
import Derived.Shelf.Strings.Explode
import Derived.Shelf.Strings.RuneCount
import Derived.Shelf.Strings.Search1
import Derived.Shelf.Strings.Search2
import Derived.Shelf.Strings.Search3
import Derived.Shelf.Strings.Shaped
import Derived.Shelf.Strings.Split
import Derived.Shelf.Strings.SplitShaped
import Derived.Shelf.Unicode.Decode
import Derived.Shelf.Unicode.DecodeAny
import Derived.Shelf.Unicode.DecodeSlow
import Derived.Shelf.Utf8.RuneCount
import Derived.Test.YtofpbcakppjgcaaGreatDoorChecked
import Derived.Test.YtofpbcakppjgcaaGreatDoorProg
import Derived.Test.YtofpbcakppjgcaaGreatDoorBBrokTakes2
import Derived.Test.YtofpbcakppjgcaaGreatDoorBBrokTakes3
import Derived.Test.YtofpbcakppjgcaaGreatDoorBBrokTakes4
import Derived.Test.YtofpbcakppjgcaaGreatDoorBBrokTakes5
import Derived.Test.YtofpbcakppjgcaaGreatDoorBBrokTakes20
section
namespace Go.Proofs.YtofpbcakppjgcaaGreatDoor.Pl
abbrev Wd:=List UInt8
def wordsL:Wd→List Wd
  | []=>[[]]
  | c::t=>if c=46 then []::wordsL t else match wordsL t with
    | []=>[[c]]
    | w::ws=>(c::w)::ws
theorem wordsL_ne (s:Wd):wordsL s≠[]:=by
  cases s with
  | nil=>simp [wordsL]
  | cons c t=>unfold wordsL; split; simp; split <;> simp
theorem wordsL_cons {c:UInt8} (hc:c≠46) {t w:Wd}{ws:List Wd} (h:wordsL t=w::ws):wordsL (c::t)=(c::w)::ws:=by rw [wordsL,if_neg hc,h]
theorem words_length:∀ s:Wd,(wordsL s).length=s.count 46+1
  | []=>rfl
  | c::t=>by
    have ih:=words_length t
    unfold wordsL
    split
    · rename_i hc
      simp [ih,hc]
    · rename_i hc
      have hn:=wordsL_ne t
      cases ht:wordsL t with
      | nil=>exact absurd ht hn
      | cons x xs =>
        rw [ht] at ih
        rw [List.count_cons_of_ne (by simpa using hc)]
        simpa using ih
def sfx:List Wd→List (List Wd)
  | []=>[[]]
  | k::ks=>(k::ks)::sfx ks
theorem mem_sfx {l:List Wd}:∀ {ks:List Wd},l∈sfx ks↔∃ u,ks=u++l
  | []=>by
    simp only [sfx,List.mem_singleton]
    constructor
    · rintro rfl; exact ⟨[],rfl⟩
    · rintro ⟨u,h⟩
      have:=List.append_eq_nil_iff.1 h.symm
      exact this.2
  | k::ks=>by
    simp only [sfx,List.mem_cons,mem_sfx (ks:=ks)]
    constructor
    · rintro (rfl | ⟨u,h⟩)
      · exact ⟨[],rfl⟩
      · exact ⟨k::u,by rw [h]; rfl⟩
    · rintro ⟨u,h⟩
      cases u with
      | nil=>exact .inl h.symm
      | cons x u =>
        simp only [List.cons_append,List.cons.injEq] at h
        exact .inr ⟨u,h.2⟩
def matchW:List Wd→List Wd→Bool
  | [],ks=>ks.isEmpty
  | p::ps,ks=>if p=[35] then (sfx ks).any (matchW ps) else match ks with
    | []=>false
    | k::ks=>(p==[42] || p==k) && matchW ps ks
theorem matchW_hash {ps ks:List Wd}:matchW ([35]::ps) ks=true↔∃ u v,ks=u++v∧matchW ps v=true:=by
  have e:matchW ([35]::ps) ks=(sfx ks).any (matchW ps):=by rw [matchW.eq_def]; simp
  rw [e,List.any_eq_true]
  constructor
  · rintro ⟨l,h1,h2⟩
    obtain ⟨u,h⟩:=mem_sfx.1 h1
    exact ⟨u,l,h,h2⟩
  · rintro ⟨u,v,h1,h2⟩
    exact ⟨v,mem_sfx.2 ⟨u,h1⟩,h2⟩
theorem matchW_cons {p:Wd} (hp:p≠[35]) {ps:List Wd}{k:Wd}{ks:List Wd}:matchW (p::ps) (k::ks)=((p==[42] || p==k) && matchW ps ks):=by
  rw [matchW,if_neg hp]
theorem matchW_end {p:Wd} (hp:p≠[35]) {ps:List Wd}:matchW (p::ps) []=false:=by
  rw [matchW,if_neg hp]
theorem matchW_nil {ks:List Wd}:matchW [] ks=true↔ks=[]:=by
  unfold matchW
  simp
def hit (p k:Wd):Bool:=p==[42] || p==k
def stepW (p:Wd) (ks:List Wd) (at':Nat→Bool) (i:Nat):Bool :=
  if p=[35] then (List.range (i+1)).any at' else match i with
    | 0=>false
    | i+1=>at' i && match ks[i]? with
      | some k=>hit p k
      | none=>false
def rowOf:List Wd→List Wd→(Nat→Bool)→Nat→Bool
  | [],_,r=>r
  | p::ps,ks,r=>rowOf ps ks (stepW p ks r)
def goes (ks:List Wd) (ps:List Wd) (r:Nat→Bool):Prop:=∃ i,i≤ks.length∧r i=true∧matchW ps (ks.drop i)=true
theorem goes_step (p:Wd) (ps ks:List Wd) (r:Nat→Bool):goes ks ps (stepW p ks r)↔goes ks (p::ps) r:=by
  unfold goes stepW
  by_cases hp:p=[35]
  · subst hp
    simp only [if_true]
    constructor
    · rintro ⟨i,hi,h1,h2⟩
      obtain ⟨j,hj,h3⟩:=List.any_eq_true.1 h1
      have hj:=List.mem_range.1 hj
      refine ⟨j,by omega,h3,matchW_hash.2 ⟨(ks.drop j).take (i - j),ks.drop i,?_,h2⟩⟩
      conv=>lhs; rw [← List.take_append_drop (i - j) (ks.drop j)]
      rw [List.drop_drop]
      congr 2; omega
    · rintro ⟨i,hi,h1,h2⟩
      obtain ⟨u,v,h3,h4⟩:=matchW_hash.1 h2
      have hl:ks.length - i=u.length+v.length:=by have:=congrArg List.length h3; simpa using this
      refine ⟨i+u.length,by omega,List.any_eq_true.2 ⟨i,List.mem_range.2 (by omega),h1⟩,?_⟩
      rw [← List.drop_drop,h3]
      simpa using h4
  · simp only [if_neg hp]
    constructor
    · rintro ⟨i,hi,h1,h2⟩
      cases i with
      | zero=>simp at h1
      | succ i =>
        have hlt:i<ks.length:=by omega
        simp only [List.getElem?_eq_getElem hlt,Bool.and_eq_true] at h1
        refine ⟨i,by omega,h1.1,?_⟩
        rw [List.drop_eq_getElem_cons hlt,matchW_cons hp,h2]
        simpa [hit] using h1.2
    · rintro ⟨i,hi,h1,h2⟩
      rcases Nat.lt_or_ge i ks.length with hlt | hge
      · rw [List.drop_eq_getElem_cons hlt,matchW_cons hp,Bool.and_eq_true] at h2
        refine ⟨i+1,by omega,?_,h2.2⟩
        simp only [List.getElem?_eq_getElem hlt,h1,Bool.true_and]
        exact h2.1
      · rw [List.drop_eq_nil_of_le hge,matchW_end hp] at h2
        cases h2
theorem goes_nil (ks:List Wd) (r:Nat→Bool):goes ks [] r↔r ks.length=true:=by
  unfold goes
  simp only [matchW_nil,List.drop_eq_nil_iff]
  constructor
  · rintro ⟨i,h1,h2,h3⟩
    rwa [Nat.le_antisymm h3 h1]
  · intro h; exact ⟨_,Nat.le_refl _,h,Nat.le_refl _⟩
theorem rowOf_goes:∀ (ps ks:List Wd) (r:Nat→Bool),rowOf ps ks r ks.length=true↔goes ks ps r
  | [],ks,r=>(goes_nil ks r).symm
  | p::ps,ks,r=>by rw [rowOf,rowOf_goes ps ks,goes_step]
theorem rowOf_match (ps ks:List Wd):rowOf ps ks (fun i=>i==0) ks.length=matchW ps ks:=by
  rw [Bool.eq_iff_iff,rowOf_goes]
  unfold goes
  constructor
  · rintro ⟨i,_,h1,h2⟩
    have:i=0:=by simpa using h1
    subst this
    simpa using h2
  · intro h; exact ⟨0,Nat.zero_le _,rfl,by simpa using h⟩
end Go.Proofs.YtofpbcakppjgcaaGreatDoor.Pl
set_option linter.unusedVariables false
namespace Go.Proofs.YtofpbcakppjgcaaGreatDoor.Pr
open Go Go.Lift Go.Proofs Pl
def strV (s:Wd):Value:=.string (mkS s)
def G (h:Heap):Prop:=∃ m,hcell h ⟨0,0,none⟩=some (.int .i64 m)
theorem G.kept {h h':Heap} (g:G h) (k:Kept h h'):G h':=let ⟨m,e⟩:=g; ⟨m,k.cell e fun x=>x⟩
theorem sl_bool:SlT P T.sl_bool T.bool 1 1 [.bool false]:=slT (by kernel_rfl) (by kernel_rfl)
theorem index_dot:∀ s:Wd,(Lib.index s [46]=-1∧wordsL s=[s])∨∃ i:Nat,Lib.index s [46]=i∧wordsL s=s.take i::wordsL (s.drop (i+1))∧i<s.length
  | []=>.inl ⟨rfl,rfl⟩
  | c::t=>by
    by_cases hc:c=46
    · subst hc
      exact .inr ⟨0,by simp [Lib.index,List.isPrefixOf],by simp [wordsL],by simp⟩
    · have hp:List.isPrefixOf [(46:UInt8)] (c::t)=false:=by simp [List.isPrefixOf]; exact fun e=>hc e.symm
      rcases index_dot t with ⟨h1,h2⟩ | ⟨i,h1,h2,h3⟩
      · exact .inl ⟨by simp [Lib.index,hp,h1],wordsL_cons hc h2⟩
      · refine .inr ⟨i+1,?_,?_,by simp; omega⟩
        · simp [Lib.index,hp,h1]
        · rw [wordsL_cons hc h2]; rfl
theorem split_words:∀ (n:Nat) (s:Wd),s.length<n→Lib.splitK [46] 0 (Lib.count s [46]) s=wordsL s∧Lib.count s [46]+1=(wordsL s).length
  | 0,s,h=>absurd h (Nat.not_lt_zero _)
  | n+1,s,h=>by
    rcases index_dot s with ⟨h1,h2⟩ | ⟨i,h1,h2,h3⟩
    · rw [Lib.count_miss h1,h2]
      exact ⟨rfl,rfl⟩
    · have hd:=split_words n (s.drop (i+1)) (by simp; omega)
      have hm:¬ (Lib.index s [46]==-1)=true:=fun e=>by have:=beq_iff_eq.1 e; omega
      have e:(Lib.index s [46]).toNat=i:=by omega
      rw [Lib.count_hit (by simp) h1,Nat.add_comm 1]
      simp only [List.length_cons,List.length_nil,Nat.zero_add]
      refine ⟨?_,?_⟩
      · rw [Lib.splitK,if_neg hm,e,h2]
        simp only [Nat.add_zero,List.length_cons,List.length_nil,Nat.zero_add]
        rw [hd.1]
      · rw [h2,List.length_cons,← hd.2]
theorem Words.spec {K:KT}{s:Wd}{h:Heap} (g:G h) (hs:s.length<1000000) (hK:∀ p l c h',Own 1 h' p l c ((wordsL s).map strV)→Kept h h'→K (.slice p l c) h') :
    CallsH P F.qea [.string (mkS s)] K h:=by
  refine qea.ok ?_
  unfold qea.p0
  obtain ⟨m,hm⟩:=g
  refine calls_of (by kernel_rfl) fun w hw=>?_
  have hsz:(mkS s).size<4294967281:=by simp [mkS,ByteArray.size]; omega
  refine (Tryz.strings_Split (mkS s) (mkS [46]) m w hsz (by rw [cell_eq,hw]; exact hm) (by decide)).mono fun e w' ⟨he,hw'⟩=>?_
  have hd:=split_words _ s (Nat.lt_succ_self _)
  have hc:Lib.countB (mkS s) (mkS [46])=Lib.count s [46]:=rfl
  have hp:(Lib.splitB (mkS [46]) 0 (Lib.countB (mkS s) (mkS [46])) (mkS s)).map Value.string=(wordsL s).map strV:=by
    have:=Lib.splitB_data (mkS [46]) 0 (Lib.countB (mkS s) (mkS [46])) (mkS s)
    have h2:Lib.splitK (mkS [46]).data.toList 0 (Lib.countB (mkS s) (mkS [46])) (mkS s).data.toList=wordsL s:=hd.1
    rw [h2] at this
    rw [← this,List.map_map]
    rfl
  rw [hp] at hw'
  rw [hc,hd.2] at he
  subst hw'
  refine ⟨_,he,⟨_,_,_,rfl,?_⟩,⟨rfl,rfl,rfl⟩⟩
  subst hw
  refine hK _ _ _ _ ⟨by simp,Nat.le_refl _,[],by simp,?_⟩ (Keeps.al _ w.heap _ T.string)
  rw [List.append_nil]
  exact Mem.new w.heap _ T.string
end Go.Proofs.YtofpbcakppjgcaaGreatDoor.Pr
set_option linter.unusedVariables false
namespace Go.Proofs.YtofpbcakppjgcaaGreatDoor.Pr
open Go Go.Lift Go.Proofs Pl
def rowB (n:Nat) (f:Nat→Bool):List Bool:=(List.range (n+1)).map f
theorem rowB_get {n:Nat}{f:Nat→Bool}{k:Nat} (hk:k≤n):(rowB n f)[k]? = some (f k):=by
  rw [rowB,List.getElem?_map,List.getElem?_range (by omega)]; rfl
theorem rowB_ext {n:Nat}{f g:Nat→Bool} (h:∀ j,j≤n→f j=g j):rowB n f=rowB n g:=by
  apply List.map_congr_left
  intro j hj
  exact h j (by have:=List.mem_range.1 hj; omega)
theorem rowB_set {n:Nat}{f g:Nat→Bool}{k:Nat}{v:Bool} (hg:∀ j,j≤n→g j=if j=k then v else f j):(rowB n f).set k v=rowB n g:=by
  apply List.ext_getElem?
  intro j
  rw [List.getElem?_set]
  by_cases hj:j≤n
  · rw [rowB_get hj,rowB_get hj,hg j hj]
    by_cases e:k=j
    · subst e; simp [rowB]; omega
    · rw [if_neg e,if_neg (fun x=>e x.symm)]
  · have e1:(rowB n f)[j]? = none:=by simp [rowB]; omega
    have e2:(rowB n g)[j]? = none:=by simp [rowB]; omega
    rw [e1,e2]
    split
    · rw [if_neg (by simp [rowB]; omega)]
    · rfl
theorem put_row {n:Nat}{f g:Nat→Bool}{h:Heap}{p:OA}{l c:Nat} (m:Own 1 h p l c ((rowB n f).map .bool)) {i:Int}{k:Nat} (hi:i=k) (hk:k≤n) {v:Bool} (hg:∀ j,j≤n→g j=if j=k then v else f j) {F:Heap→Prop}
    (hF:∀ h',Own 1 h' p l c ((rowB n g).map .bool)→Keeps (fun k=>∃ a,p=some a∧a.block=k) h h'→F h') :
    ∃ a,p=some a∧(0:Int)≤i∧i<((l:Nat):Int)∧∃ h',stC h (Addr.add a (Int.toNat i * 1)) 0 [.bool v]=some h'∧F h':=by
  refine put m hi (by simp [rowB]; omega) rfl fun h' h1 h2 _=>hF h' ?_ h2
  have:=List.map_set (f:=Value.bool) (l:=rowB n f) (i:=k) (a:=v)
  rw [← this,rowB_set hg] at h1
  exact h1
def cur (p:Wd) (ks:List Wd) (r:Nat→Bool) (i j:Nat):Bool:=decide (j<if p=[35] then i else i+1) && stepW p ks r j
theorem stepW_hash {ks:List Wd}{r:Nat→Bool} (i:Nat):stepW [35] ks r i=((List.range i).any r || r i):=by
  unfold stepW
  rw [if_pos rfl,List.range_succ,List.any_append]
  simp
theorem stepW_hash_succ {ks:List Wd}{r:Nat→Bool} (i:Nat):stepW [35] ks r (i+1)=(stepW [35] ks r i || r (i+1)):=by
  rw [stepW_hash,stepW_hash,List.range_succ,List.any_append]
  simp
theorem cur_hash {ks:List Wd}{r:Nat→Bool}{i:Nat}{v:Bool} (hv:v=stepW [35] ks r i):∀ j,cur [35] ks r (i+1) j=if j=i then v else cur [35] ks r i j:=by
  intro j
  unfold cur
  simp only [if_true]
  by_cases hj:j=i
  · subst hj; simp [hv]
  · rw [if_neg hj]
    have:(decide (j<i+1))=decide (j<i):=by rw [decide_eq_decide]; omega
    rw [this]
theorem cur_word {p:Wd} (hp:p≠[35]) {ks:List Wd}{r:Nat→Bool}{i:Nat}{v:Bool} (hv:v=stepW p ks r (i+1)):∀ j,cur p ks r (i+1) j=if j=i+1 then v else cur p ks r i j:=by
  intro j
  unfold cur
  simp only [if_neg hp]
  by_cases hj:j=i+1
  · subst hj; simp [hv]
  · rw [if_neg hj]
    have:(decide (j<i+1+1))=decide (j<i+1):=by rw [decide_eq_decide]; omega
    rw [this]
theorem cur_same {p:Wd} (hp:p≠[35]) {ks:List Wd}{r:Nat→Bool}{i:Nat} (h:stepW p ks r (i+1)=false):∀ j,cur p ks r (i+1) j=cur p ks r i j:=by
  intro j
  rw [cur_word hp h.symm]
  split
  · rename_i e; subst e; unfold cur; simp [hp]
  · rfl
theorem cur_end (p:Wd) (ks:List Wd) (r:Nat→Bool) {n:Nat}:∀ j,j≤n→cur p ks r (n+1) j=stepW p ks r j:=by
  intro j hj
  unfold cur
  rw [decide_eq_true (by split <;> omega),Bool.true_and]
theorem cur_zero (p:Wd) (ks:List Wd) (r:Nat→Bool):∀ j,cur p ks r 0 j=false:=by
  intro j
  unfold cur
  by_cases hp:p=[35]
  · simp [hp]
  · simp only [if_neg hp]
    by_cases hj:j=0
    · subst hj; unfold stepW; simp [hp]
    · simp; omega
theorem step_word {p:Wd} (hp:p≠[35]) {ks:List Wd}{r:Nat→Bool}{i:Nat}{k:Wd} (hk:ks[i]? = some k):stepW p ks r (i+1)=(r i && hit p k):=by
  unfold stepW
  simp [hp,hk]
theorem step_over {p:Wd} (hp:p≠[35]) {ks:List Wd}{r:Nat→Bool}{i:Nat} (hk:ks.length≤i):stepW p ks r (i+1)=false:=by
  unfold stepW
  simp [hp,hk]
theorem fresh_keep {h1 h h':Heap}{q:OA} (hq:q=some (top h1)) (k:Kept h1 h) (k2:Keeps (fun b=>∃ a,q=some a∧a.block=b) h h'):Kept h1 h':=by
  refine k.trans' k2 fun b hb ⟨a,e1,e2⟩=>?_
  rw [hq] at e1
  cases e1
  rw [top_block] at e2
  omega
theorem wrap_succ {i:Nat} (hi:i<9223372036854775807):IntKind.i64.wrap ((i:Int)+1)=((i+1:Nat):Int):=by rw [wrapI (by omega) (by omega)]; omega
theorem wrap_pred {i:Nat} (h0:0<i) (hi:i<9223372036854775807):IntKind.i64.wrap ((i:Int) - 1)=((i - 1:Nat):Int):=by rw [wrapI (by omega) (by omega)]; omega
theorem match_in {K:KT}{R2:OA→Nat→Nat→OA→Nat→Nat→OA→Nat→Nat→Int→Int→Heap→Prop}{ks:List Wd}{r:Nat→Bool}{p:Wd}{n:Nat} (hn:n=ks.length) (hb:n<1000000) {h1:Heap}{p5 p9 p21 p31:OA}{l5 c5 l21 c21 c31:Nat}{t22 t23:Int}
    (s5:Sl 1 h1 p5 l5 (ks.map strV)) (s31:Sl 1 h1 p31 (n+1) ((rowB n r).map .bool)) (h9:p9=some (top h1))
    (hR:∀ h',Own 1 h' p9 (n+1) (n+1) ((rowB n (stepW p ks r)).map .bool)→Kept h1 h'→qbe.j3 K R2 p5 l5 c5 p9 (n+1) (n+1) p21 l21 c21 t22 t23 h') :
    ∀ (fuel i:Nat) (h:Heap),n+1 - i<fuel→i≤n+1→Own 1 h p9 (n+1) (n+1) ((rowB n (cur p ks r i)).map .bool)→Kept h1 h →
      qbe.L4 K R2 fuel p5 l5 c5 p p9 (n+1) (n+1) p21 l21 c21 t22 t23 p31 (n+1) c31 ((n+1:Nat):Int) i h
  | 0,_,_,hf,_,_,_=>absurd hf (Nat.not_lt_zero _)
  | fuel+1,i,h,hf,hi,ho,hk=>by
    have hl5:l5=n:=by have:=s5.1; simp at this; omega
    unfold qbe.L4
    by_cases hin:i<n+1
    · refine ifT (by simp; omega) ?_
      refine ix (s31.kept hk) rfl (rowB_get (k:=i) (by omega)) ?_
      simp only [bd]
      have next:∀ h',Own 1 h' p9 (n+1) (n+1) ((rowB n (cur p ks r (i+1))).map .bool)→Kept h1 h'→qbe.j5 K R2 (qbe.L4 K R2 fuel) p5 l5 c5 p p9 (n+1) (n+1) p21 l21 c21 t22 t23 p31 (n+1) c31 ((n+1:Nat):Int) i h':=by
        intro h' ho' hk'
        unfold qbe.j5
        rw [wrap_succ (by omega)]
        exact match_in hn hb s5 s31 h9 hR fuel (i+1) h' (by omega) (by omega) ho' hk'
      by_cases hp:p=[35]
      · subst hp
        refine ifT (by simp) ?_
        have fin:∀ v:Bool,v=stepW [35] ks r i→∃ a,p9=some a∧(0:Int)≤(i:Int)∧(i:Int)<((n+1:Nat):Int)∧∃ h',stC h (Addr.add a (Int.toNat (i:Int) * 1)) 0 [.bool v]=some h'∧qbe.j5 K R2 (qbe.L4 K R2 fuel) p5 l5 c5 [35] p9 (n+1) (n+1) p21 l21 c21 t22 t23 p31 (n+1) c31 ((n+1:Nat):Int) i h' :=
          fun v hv=>put_row ho rfl (by omega) (fun j _=>cur_hash hv j) fun h' o' k'=>next h' o' (fresh_keep h9 hk k')
        cases hr:r i with
        | true =>
          exact ifT' rfl (fin true (by rw [stepW_hash,hr,Bool.or_true]))
        | false =>
          refine ifF' rfl ?_
          by_cases h0:0<i
          · refine ifT (by simp; omega) ?_
            obtain ⟨i',rfl⟩:∃ i',i=i'+1:=⟨i - 1,by omega⟩
            refine ix ho.sl (wrap_pred h0 (by omega)) (rowB_get (k:=i'+1 - 1) (by omega)) ?_
            refine fin _ ?_
            rw [stepW_hash_succ,hr,Bool.or_false]
            unfold cur
            simp
          · refine ifF (by simp; omega) ?_
            obtain rfl:i=0:=by omega
            exact fin false (by rw [stepW_hash,hr]; rfl)
      · refine ifF (by simpa using hp) ?_
        have fin:∀ v:Bool,v=stepW p ks r (i+1)→(v=true→i<n)→qbe.j6 K R2 (qbe.L4 K R2 fuel) p5 l5 c5 p p9 (n+1) (n+1) i p21 l21 c21 t22 t23 p31 (n+1) c31 ((n+1:Nat):Int) i v h:=by
          intro v hv hvi
          unfold qbe.j6
          cases v with
          | true =>
            refine ifT rfl ?_
            refine put_row ho (wrap_succ (by omega)) (by have:=hvi rfl; omega) (fun j _=>cur_word hp hv j) fun h' o' k'=>?_
            exact next h' o' (fresh_keep h9 hk k')
          | false =>
            refine ifF rfl (next h ?_ hk)
            rw [rowB_ext fun j _=>cur_same hp hv.symm j]
            exact ho
        cases hr:r i with
        | false =>
          refine ifF rfl (fin false ?_ (by simp))
          by_cases hlt:i<n
          · rw [step_word hp (List.getElem?_eq_getElem (hn ▸ hlt)),hr]; rfl
          · rw [step_over hp (by omega)]
        | true =>
          refine ifT rfl ?_
          by_cases hlt:i<n
          · have hlt':i<ks.length:=hn ▸ hlt
            have hst:stepW p ks r (i+1)=(p==[42] || p==ks[i]):=by rw [step_word hp (List.getElem?_eq_getElem hlt'),hr]; rfl
            refine ifT (by rw [hl5]; simp; omega) ?_
            by_cases hs:p=[42]
            · refine ifT' (by simpa using hs) (fin true ?_ fun _=>hlt)
              rw [hst,hs]; rfl
            · refine ifF' (by simpa using hs) ?_
              refine ix (s5.kept hk) rfl (List.getElem?_eq_getElem hlt') (fin _ ?_ fun _=>hlt)
              rw [hst]
              simp [hs]
          · refine ifF (by rw [hl5]; simp; omega) (fin false (step_over hp (by omega)).symm (by simp))
    · refine ifF (by simp; omega) (hR h ?_ hk)
      obtain rfl:i=n+1:=by omega
      rw [rowB_ext (cur_end p ks r)] at ho
      exact ho
theorem row_zero (n:Nat) (f:Nat→Bool) (hf:∀ j,f j=false):List.replicate (n+1) (Value.bool false)=(rowB n f).map .bool:=by
  unfold rowB
  rw [List.map_map]
  apply List.ext_getElem
  · simp
  · intro i _ _
    simp [hf]
theorem match_out {K:KT}{ks:List Wd}{n:Nat} (hn:n=ks.length) (hb:n<1000000) {h0:Heap}{p5 p21:OA}{l5 c5 l21 c21:Nat}{ws:List Wd} (hk5:Sl 1 h0 p5 l5 (ks.map strV)) (h21:Sl 1 h0 p21 l21 (ws.map strV)) (hl:ws.length<1000000)
    {Q:Bool}{r0:Nat→Bool} (hQ:Q=rowOf ws ks r0 n) (hK:∀ h',Kept h0 h'→K (.bool Q) h') :
    ∀ (fuel i:Nat) (p6:OA) (l6 c6:Nat) (r:Nat→Bool) (h:Heap),ws.length - i<fuel→i≤ws.length→Sl 1 h p6 l6 ((rowB n r).map .bool)→rowOf (ws.drop i) ks r n=Q→Kept h0 h →
      qbe.L2 K fuel p5 l5 c5 p6 l6 c6 p21 l21 c21 ((l21:Nat):Int) i h
  | 0,_,_,_,_,_,_,hf,_,_,_,_=>absurd hf (Nat.not_lt_zero _)
  | fuel+1,i,p6,l6,c6,r,h,hf,hi,s6,hr,hk=>by
    have e5:l5=n:=by have:=hk5.1; simp at this; omega
    have e21:l21=ws.length:=by have:=h21.1; simpa using this.symm
    have e6:l6=n+1:=by have:=s6.1; simp [rowB] at this; omega
    unfold qbe.L2
    by_cases hlt:i<ws.length
    · refine ifT (by simp; omega) ?_
      refine ix (h21.kept hk) rfl (List.getElem?_eq_getElem hlt) ?_
      have hw:IntKind.i64.wrap ((l5:Int)+1)=((n+1:Nat):Int):=by rw [e5,wrap_succ (by omega)]
      rw [hw]
      refine make_own sl_bool rfl (by omega) (by omega) fun h2 ho hk2 hs2=>?_
      refine ⟨_,_,_,rfl,n+2,?_⟩
      rw [row_zero n _ (cur_zero ws[i] ks r)] at ho
      subst e6
      have:=match_in (K:=K) (R2:=qbe.L2 K fuel) (p:=ws[i]) (h1:=h) (p9:=some (top h)) (c5:=c5) (l21:=l21) (c21:=c21) (c31:=c6) (t22:=((l21:Nat):Int)) (t23:=i) (p21:=p21) hn hb (hk5.kept hk) s6 rfl (fun h' ho' hk'=>?_) (n+2) 0 h2 (by omega) (by omega) ho hk2
      · exact this
      · unfold qbe.j3
        rw [wrap_succ (by omega)]
        refine match_out hn hb hk5 h21 hl hQ hK fuel (i+1) _ _ _ (stepW ws[i] ks r) h' (by omega) (by omega) ho'.sl ?_ (hk.trans hk')
        rw [← hr,List.drop_eq_getElem_cons hlt]
        rfl
    · refine ifF (by simp; omega) ?_
      unfold qbe.j1
      rw [List.drop_eq_nil_of_le (by omega)] at hr
      refine ix s6 (n:=n) (by rw [e5]) (rowB_get (Nat.le_refl n)) ?_
      have:r n=Q:=hr
      rw [this]
      exact hK h hk
theorem words_short (s:Wd):(wordsL s).length≤s.length+1:=by
  rw [words_length]
  have:s.count 46≤s.length:=List.count_le_length ..
  omega
theorem Match.spec {K:KT}{p k:Wd}{h:Heap} (g:G h) (hp:p.length<100000) (hkl:k.length<100000) (hK:∀ h',Kept h h'→K (.bool (matchW (wordsL p) (wordsL k))) h') :
    CallsH P F.qbe [.string (mkS p),.string (mkS k)] K h:=by
  refine qbe.ok ?_
  unfold qbe.p0
  refine Words.spec g (by omega) fun p5 l5 c5 h5 o5 k5=>⟨_,_,_,rfl,?_⟩
  have hwk:=words_short k
  have hwp:=words_short p
  have e5:l5=(wordsL k).length:=by have:=o5.1; simpa using this.symm
  have hw:IntKind.i64.wrap ((l5:Int)+1)=((l5+1:Nat):Int):=wrap_succ (by omega)
  rw [hw]
  refine make_own sl_bool rfl (by omega) (by omega) fun h6 ho hk6 hs6=>⟨_,_,_,rfl,?_⟩
  rw [row_zero l5 (fun _=>false) (fun _=>rfl)] at ho
  refine put_row ho (k:=0) (g:=fun i=>i==0) rfl (by omega) (fun j _=>by by_cases hj:j=0 <;> simp [hj]) fun h7 ho7 hk7=>?_
  have hk57:Kept h5 h7:=fresh_keep rfl hk6 hk7
  have hk07:Kept h h7:=k5.trans hk57
  refine Words.spec (g.kept hk07) (by omega) fun p21 l21 c21 h8 o8 k8=>⟨_,_,_,rfl,(wordsL p).length+1,?_⟩
  refine match_out (n:=l5) (Q:=matchW (wordsL p) (wordsL k)) (r0:=fun i=>i==0) e5 (by omega) ((o5.sl.kept hk57).kept k8) o8.sl (by omega) ?_ (fun h' hk'=>hK h' ((hk07.trans k8).trans hk')) _ 0 _ _ _ (fun i=>i==0) h8 (by omega) (by omega) (ho7.sl.kept k8) ?_ (Kept.refl h8)
  · rw [e5,rowOf_match]
  · rw [e5,List.drop_zero,rowOf_match]
end Go.Proofs.YtofpbcakppjgcaaGreatDoor.Pr
end
