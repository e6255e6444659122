/- brokTakes_holds: all that the theorem needs, in a few texts (bundle.py; made of the texts that NOTES.md names). -/
import Derived.Below
import Derived.Laws.Append
import Derived.Laws.Bits64
import Derived.Laws.BitsAllLaws
import Derived.Laws.BitsLemmas
import Derived.Laws.IdiomStrings
import Derived.Laws.Sem
import Derived.Laws.Strings
import Derived.Laws.StructEq
import Derived.LoopN
import Derived.MapKept
import Derived.Orders
import Derived.WideLaws
import Derived.Test.YtofpbcakppjgcaaGreatDoorBBrokTakes2
import Derived.Test.YtofpbcakppjgcaaGreatDoorBBrokTakes3
import Derived.Test.YtofpbcakppjgcaaGreatDoorBBrokTakes5
import Derived.Test.YtofpbcakppjgcaaGreatDoorBBrokTakes8
import Derived.Test.YtofpbcakppjgcaaGreatDoorBBrokTakes9
section
set_option linter.unusedVariables false
set_option linter.unusedSimpArgs false
namespace Go.Lift
theorem callV_fn {P:Program}{f:FuncId}{args:List Value}{cs:Array Value}{K:KT}{h:Heap} (c:CallsH P f (args++cs.toList) K h):CallV P (.func (.func f) #[] cs) args K h :=
  ⟨f,#[],cs,rfl,by simpa using c⟩
theorem slA_z (p:OA) (c sz:Nat):slA p 0 c sz=p:=by
  unfold slA
  split
  · rfl
  · cases p with
    | none=>rfl
    | some a=>simp [Nat.zero_mul,add_zero]
theorem Own.shrink {sz:Nat}{h:Heap}{p:OA}{l c n:Nat}{vs:List Value} (o:Own sz h p l c vs) (hn:n≤l):Own sz h p n c (vs.take (n * sz)):=by
  have h1:=o.1
  have h2:n * sz≤l * sz:=Nat.mul_le_mul_right sz hn
  refine ⟨by rw [List.length_take,h1]; omega,Nat.le_trans hn o.2.1,?_⟩
  cases p with
  | none=>exact o.2.2
  | some a =>
    obtain ⟨r,h3,h4⟩:=o.2.2
    refine ⟨vs.drop (n * sz)++r,?_,by rw [← List.append_assoc,List.take_append_drop]; exact h4⟩
    rw [List.length_append,List.length_drop,h1,h3,← Nat.sub_mul,← Nat.add_mul]
    congr 1
    have:=o.2.1
    omega
section
variable {L:List Asr}{h:Heap}
theorem St.owShrink {sz n:Nat}{s:SV}{vs:List Value} (S:St (Ow sz s vs::L) h) (hn:n≤s.2.1):St (Ow sz (s.1,n,s.2.2) (vs.take (n * sz))::L) h :=
  S.owUpd (s':=(s.1,n,s.2.2)) (Keeps.refl _ _) (.inl ⟨rfl,rfl,rfl⟩) (S.ow.shrink hn)
theorem Own.many {sz:Nat}{p:OA}{l c:Nat}{vs ws:List Value}{i:Nat} (o:Own sz h p l c vs) (hi:i+ws.length≤vs.length) (hw:0<ws.length) (ho:∀ w∈ws,one w=true) :
    ∃ a h',p=some a∧a.spot=none∧stC h (a.add i) 0 ws=some h'∧Own sz h' p l c (vs.take i++ws++vs.drop (i+ws.length))∧Keeps (fun b=>b=a.block) h h'∧h'.size=h.size:=by
  cases p with
  | none =>
    have h1:=o.1; have h2:=o.2.1; have h3:=o.2.2
    simp only at h3
    subst h3
    have:l=0:=by omega
    subst this
    omega
  | some a =>
    obtain ⟨r,h1,h2⟩:=o.2.2
    have hsp:a.spot=none:=h2.1.1 fun e=>by
      have:=congrArg List.length e
      simp only [List.length_append,List.length_nil] at this
      omega
    obtain ⟨h',e1,e2,e3,e4⟩:=stC_many (a:=a) (ws:=ws) (i:=i) h2 (by rw [List.length_append]; omega) ho
    refine ⟨a,h',rfl,hsp,by rw [stC_shift hsp]; exact e1,⟨?_,o.2.1,r,h1,?_⟩,e3,e4⟩
    · rw [← o.1]
      simp only [List.length_append,List.length_take,List.length_drop]
      omega
    · rw [List.take_append_of_le_length (by omega),List.drop_append_of_le_length (by omega),← List.append_assoc] at e2
      exact e2
theorem flat_take {α:Type}{f:α→List Value}{n:Nat} (hf:∀ x,(f x).length=n):∀ (l:List α) (i:Nat),(l.flatMap f).take (i * n)=(l.take i).flatMap f
  | [],i=>by simp
  | y::t,0=>by simp
  | y::t,i+1=>by
    rw [List.flatMap_cons,List.take_succ_cons,List.flatMap_cons,← flat_take hf t i,show (i+1) * n=(f y).length+i * n by rw [hf,Nat.add_mul,Nat.one_mul,Nat.add_comm],List.take_length_add_append]
theorem flat_drop {α:Type}{f:α→List Value}{n:Nat} (hf:∀ x,(f x).length=n):∀ (l:List α) (i:Nat),(l.flatMap f).drop (i * n)=(l.drop i).flatMap f
  | [],i=>by simp
  | y::t,0=>by simp
  | y::t,i+1=>by
    rw [List.flatMap_cons,List.drop_succ_cons,← flat_drop hf t i,show (i+1) * n=(f y).length+i * n by rw [hf,Nat.add_mul,Nat.one_mul,Nat.add_comm],List.drop_length_add_append]
theorem set_eq {α:Type} (l:List α) (i:Nat) (x:α) (h:i<l.length):l.set i x=l.take i++x::l.drop (i+1):=List.set_eq_take_append_cons_drop .. |>.trans (if_pos h)
theorem St.owSetN {α:Type}{f:α→List Value}{sz:Nat} (hf:∀ x,(f x).length=sz) (h1:∀ x,∀ w∈f x,one w=true) (hsz:0<sz) {s:SV}{xs:List α} (S:St (Ow sz s (xs.flatMap f)::L) h) {i:Int}{n:Nat} (hi:i=n) (hn:n<xs.length) (x:α) :
    ∃ a,s.1=some a∧(0:Int)≤i∧i<((s.2.1:Nat):Int)∧∃ h',stC h (Addr.add a (Int.toNat i * sz)) 0 (f x)=some h'∧St (Ow sz s ((xs.set n x).flatMap f)::L) h':=by
  subst hi
  have hl:=S.ow.1
  rw [flat_length hf] at hl
  have hl2:xs.length=s.2.1:=Nat.eq_of_mul_eq_mul_right hsz hl
  have h3:(n+1) * sz≤xs.length * sz:=Nat.mul_le_mul_right sz hn
  rw [Nat.add_mul,Nat.one_mul] at h3
  obtain ⟨a,h',e1,e2,e3,e4,e5,e6⟩:=S.ow.many (ws:=f x) (i:=n * sz) (by rw [flat_length hf,hf]; exact h3) (by rw [hf]; exact hsz) (h1 x)
  refine ⟨a,e1,by omega,by omega,h',by rw [Int.toNat_natCast]; exact e3,?_⟩
  have e7:(xs.flatMap f).take (n * sz)++f x++(xs.flatMap f).drop (n * sz+(f x).length)=(xs.set n x).flatMap f:=by
    rw [set_eq _ _ _ hn,List.flatMap_append,List.flatMap_cons,flat_take hf,hf,show n * sz+sz=(n+1) * sz by rw [Nat.add_mul,Nat.one_mul],flat_drop hf,List.append_assoc]
  rw [e7] at e4
  refine S.owUpd (s':=s) (e5.mono fun b _ hb=>⟨?_,a,e1,hb.symm⟩) (.inl ⟨rfl,rfl,e6⟩) e4
  have h4:=S.ow.2.1
  have h5:1 * sz≤s.2.2 * sz:=Nat.mul_le_mul_right sz (by omega)
  omega
theorem St.clr {P:Program}{t e ty:TypeId}{sz by':Nat}{z:List Value} (T:SlT P t e sz by' z) (hz:z.length=sz) (hz1:∀ w∈z,one w=true) (hsz:0<sz) {s:SV}{vs:List Value} (S:St (Ow sz s vs::L) h) {n:Nat} (hn:n≤s.2.1) {K:KT}
    (hK:∀ h',St (Ow sz (s.1,n,s.2.2) (vs.take (n * sz))::L) h'→K (.tuple #[]) h'):SemH P (Builtin.clear_ #[t] ty #[.slice (slA s.1 n s.2.2 sz) (s.2.1 - n) (s.2.2 - n)]) K h:=by
  intro w hw
  subst hw
  obtain ⟨hu,i,zv,hi,hs,hby,hzv,hzc⟩:=T
  have h1:=S.ow.1
  have h2:=S.ow.2.1
  by_cases h0:s.2.1 - n=0
  · refine ⟨.tuple #[],w,?_,hK _ (S.owShrink hn),Rest.refl w⟩
    rw [h0]
    cases slA s.1 n s.2.2 sz <;> simp [Builtin.clear_,Go.run_underlying hu]
  · have h3:n * sz+(s.2.1 - n) * sz=s.2.1 * sz:=by rw [← Nat.add_mul]; congr 1; omega
    have h4:1 * sz≤(s.2.1 - n) * sz:=Nat.mul_le_mul_right sz (by omega)
    have hl:(rep (s.2.1 - n) z).length=(s.2.1 - n) * sz:=by rw [rep_length,hz]
    obtain ⟨a,h',e1,e2,e3,e4,e5,e6⟩:=S.ow.many (ws:=rep (s.2.1 - n) z) (i:=n * sz) (by rw [hl]; omega) (by rw [hl]; omega) (fun x hx=>by
      unfold rep at hx
      obtain ⟨l,hl1,hl2⟩:=List.mem_flatten.1 hx
      rw [List.mem_replicate] at hl1
      rw [hl1.2] at hl2
      exact hz1 x hl2)
    obtain ⟨w',r1,r2,r3⟩:=run_storeCells P (a.add (n * sz)) (rep (s.2.1 - n) z) 0 w h' e3
    have e7:slA s.1 n s.2.2 sz=some (a.add (n * sz)):=by unfold slA; rw [if_neg (by omega),e1]; rfl
    have ez:(Builtin.zeroCells zv.cells (s.2.1 - n)).toList=rep (s.2.1 - n) z:=by rw [hzc,zeroCells_eq]
    have k0:∃ k,s.2.1 - n=k+1:=⟨s.2.1 - n - 1,by omega⟩
    obtain ⟨k,hk⟩:=k0
    refine ⟨.tuple #[],w',?_,?_,r3⟩
    · rw [e7]
      rw [hk] at ez r1 ⊢
      simp [Builtin.clear_,Go.run_underlying hu,zeroValue,typeInfo,hi,hzv,ez,r1,Result.andThen]
    · rw [r2]
      refine hK h' ?_
      have h5:1 * sz≤s.2.2 * sz:=Nat.mul_le_mul_right sz (by omega)
      have S2:=S.owUpd (s':=s) (e5.mono fun b _ hb=>⟨by omega,a,e1,hb.symm⟩) (.inl ⟨rfl,rfl,e6⟩) e4
      have S3:=S2.owShrink hn
      have e8:(vs.take (n * sz)++rep (s.2.1 - n) z++vs.drop (n * sz+(rep (s.2.1 - n) z).length)).take (n * sz)=vs.take (n * sz):=by
        rw [List.append_assoc,List.take_append_of_le_length (by rw [List.length_take]; omega),List.take_take,Nat.min_self]
      rw [e8] at S3
      exact S3
end
end Go.Lift
end
section
set_option linter.unusedVariables false
set_option linter.unusedSimpArgs false
namespace Go.Lift
section
variable {L R:List Asr}{h:Heap}
theorem St.bd1 {t:TypeId} (S:St L h) {cs:List Value}{F:Heap→Prop} (hK:St (Bx (top h) cs::L) (Lift.al h (List.toArray cs) t)→F (Lift.al h (List.toArray cs) t)):bd (Lift.al h (List.toArray cs) t) F:=hK (S.al cs t)
section
variable {α:Type}{f:α→List Value}{sz:Nat}{P:Program}{t tx ty e:TypeId}{d:TypeDesc}{by':Nat}{z:List Value}{K:KT}
end
end
end Go.Lift
end
