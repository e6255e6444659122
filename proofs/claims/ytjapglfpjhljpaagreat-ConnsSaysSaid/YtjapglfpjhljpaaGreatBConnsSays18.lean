/- connsSays_holds: all that the theorem needs, in a few texts (bundle.py; made of the texts that NOTES.md names). -/
import Derived.Below
import Derived.KernelRfl
import Derived.Laws.Append
import Derived.Laws.Bits64
import Derived.Laws.BitsAllLaws
import Derived.Laws.BitsLemmas
import Derived.Laws.IdiomStrings
import Derived.Laws.Sem
import Derived.Laws.Strings
import Derived.Lib.ItoaNum
import Derived.LoopN
import Derived.MapKept
import Derived.Orders
import Derived.Shelf.Lay
import Derived.Shelf.Small.Bits
import Derived.Test.YtjapglfpjhljpaaGreatChecked
import Derived.WideLaws
import Derived.Test.YtjapglfpjhljpaaGreatBConnsSays1
import Derived.Test.YtjapglfpjhljpaaGreatBConnsSays2
import Derived.Test.YtjapglfpjhljpaaGreatBConnsSays3
import Derived.Test.YtjapglfpjhljpaaGreatBConnsSays4
import Derived.Test.YtjapglfpjhljpaaGreatBConnsSays5
import Derived.Test.YtjapglfpjhljpaaGreatBConnsSays7
import Derived.Test.YtjapglfpjhljpaaGreatBConnsSays8
section
namespace Go.Proofs
open Go.Shelf
shelf_lay Lays.n128 Nm 128 at Tryz as Tryz.sb128
shelf_lay Lays.n129 Nm 129 at Tryz as Tryz.sb129
theorem Tryz.sb_Len64 (x:Int) (w:World) (h0:0≤x) (h1:x≤18446744073709551615) :
    Calls Tryz.prog YtjapglfpjhljpaaGreat.Pr.F.math_bits_Len64 #[.int .u64 x] w fun e w'=>e=.returned (.int .i64 (Lib.bitLen x.toNat))∧w'=w:=Any.bits_Len64 Tryz.sb129 x w h0 h1
shelf_lay Lays.n125 Nm 125 at Tryz as Tryz.sb125
theorem Tryz.sb_Len (x:Int) (w:World) (h0:0≤x) (h1:x≤18446744073709551615) :
    Calls Tryz.prog YtjapglfpjhljpaaGreat.Pr.F.math_bits_Len #[.int .u64 x] w fun e w'=>e=.returned (.int .i64 (Lib.bitLen x.toNat))∧w'=w:=Any.bits_Len Tryz.sb125 x w h0 h1
end Go.Proofs
namespace Go.Proofs.YtjapglfpjhljpaaGreat.Pr
open Go Go.Lift Go.Proofs
theorem lenS {K:KT}{h:Heap}{x:Nat} (hx:x<18446744073709551616) (hK:K (.int .i64 (Lib.bitLen x:Nat)) h):CallsH P F.math_bits_Len [.int .u64 (x:Int)] K h:=by
  refine ⟨by kernel_rfl,fun w hw=>?_⟩
  refine (Tryz.sb_Len (x:Int) w (by omega) (by omega)).mono fun e w' hh=>?_
  obtain ⟨h1,h2⟩:=hh
  refine ⟨_,h1,?_,by rw [h2]; exact Rest.refl w⟩
  rw [h2,hw,Int.toNat_natCast]
  exact hK
end Go.Proofs.YtjapglfpjhljpaaGreat.Pr
end
section
set_option linter.unusedVariables false
set_option linter.unusedSimpArgs false
set_option linter.unusedSectionVars false
namespace Go.Proofs.YtjapglfpjhljpaaGreat.Pr.sort_int
open Go Go.Lift Go.Proofs
def o:Lift.Ord Int where
  lt:=fun x y=>decide (x<y)
  asym:=fun x y h=>by simp at *; omega
  trans:=fun x y z h k=>by simp at *; omega
abbrev rw (n:Nat) (f:Nat→Int):List Value:=rowF n (fun i=>.int .i64 (f i))
theorem rw_get {n i:Nat} (f:Nat→Int) (h:i<n):(rw n f)[i]? = some (.int .i64 (f i)):=rowF_get _ h
theorem rw_len (n:Nat) (f:Nat→Int):(rw n f).length=n:=rowF_len _ _
theorem rw_swap {n i j:Nat} (f:Nat→Int) (hi:i<n) (hj:j<n):((rw n f).set i (.int .i64 (f j))).set j (.int .i64 (f i))=rw n (swp f i j):=by
  apply List.ext_getElem?
  intro k
  by_cases hk:k<n
  · rw [rw_get _ hk,List.getElem?_set,List.getElem?_set,List.length_set,rw_len,rw_get _ hk]
    by_cases h1:j=k
    · subst h1
      rw [if_pos rfl,if_pos hj]
      by_cases h2:j=i
      · subst h2; simp [swp]
      · simp [swp,h2]
    · rw [if_neg h1]
      by_cases h2:i=k
      · subst h2
        rw [if_pos rfl,if_pos hi]
        simp [swp]
      · rw [if_neg h2]
        have h3:¬ k=i:=fun e=>h2 e.symm
        have h4:¬ k=j:=fun e=>h1 e.symm
        simp [swp,h3,h4]
  · rw [List.getElem?_eq_none (by simp [rw_len]; omega),List.getElem?_eq_none (by rw [rw_len]; omega)]
section
variable {K:KT}{L:List Asr}{h:Heap}
theorem lessS {x y:Int} (hK:K (.bool (o.lt x y)) h):CallsH P F.qdk [.int .i64 x,.int .i64 y] K h:=by
  refine qdk.ok ?_
  unfold qdk.p0
  refine qdi.ok ?_
  unfold qdi.p0
  refine ⟨_,rfl,?_⟩
  exact ⟨fun e=>absurd e (by simp),fun _=>hK⟩
theorem rlen {s:SV}{n:Nat}{f:Nat→Int} (S:St (Ow 1 s (rw n f)::L) h):s.2.1=n:=by
  have:=S.ow.1
  rw [rw_len] at this
  omega
theorem less2T {s:SV}{n:Nat}{f:Nat→Int}{x y:Int}{i j:Nat}{R:Bool→Heap→Prop} (S:St (Ow 1 s (rw n f)::L) h) (hx:x=i) (hy:y=j) (hi:i<n) (hj:j<n) (hR:R (o.lt (f i) (f j)) h) :
    ∃ p,s.1=some p∧(0:Int)≤x∧x<((s.2.1:Nat):Int)∧∃ q,s.1=some q∧(0:Int)≤y∧y<((s.2.1:Nat):Int)∧∃ u,hcell h (Addr.add p (Int.toNat x * 1))=some (.int .i64 u)∧∃ v,hcell h (Addr.add q (Int.toNat y * 1))=some (.int .i64 v) ∧
      CallsH P F.qdk [.int .i64 u,.int .i64 v] (fun v h'=>∃ b,v=.bool b∧R b h') h :=
  ixV S.sl hx (rw_get f hi) fun p ep cp=>ixV S.sl hy (rw_get f hj) fun q eq cq=>⟨_,cp,_,cq,lessS ⟨_,rfl,hR⟩⟩
theorem swapT {s:SV}{n:Nat}{f:Nat→Int}{x y:Int}{i j:Nat}{Q:Heap→Prop} (S:St (Ow 1 s (rw n f)::L) h) (hx:x=i) (hy:y=j) (hi:i<n) (hj:j<n) (hQ:∀ h',St (Ow 1 s (rw n (swp f j i))::L) h'→Q h') :
    ∃ p,s.1=some p∧(0:Int)≤x∧x<((s.2.1:Nat):Int)∧∃ q,s.1=some q∧(0:Int)≤y∧y<((s.2.1:Nat):Int)∧∃ u,hcell h (Addr.add p (Int.toNat x * 1))=some (.int .i64 u)∧∃ v,hcell h (Addr.add q (Int.toNat y * 1))=some (.int .i64 v) ∧
      ∃ p',s.1=some p'∧(0:Int)≤y∧y<((s.2.1:Nat):Int)∧∃ h1,stC h (Addr.add p' (Int.toNat y * 1)) 0 [.int .i64 u]=some h1∧∃ q',s.1=some q'∧(0:Int)≤x∧x<((s.2.1:Nat):Int)∧∃ h2,stC h1 (Addr.add q' (Int.toNat x * 1)) 0 [.int .i64 v]=some h2∧Q h2 :=
  ixV S.sl hx (rw_get f hi) fun p ep cp=>ixV S.sl hy (rw_get f hj) fun q eq cq=>⟨_,cp,_,cq,S.owSet hy (by rw [rw_len]; exact hj) rfl fun h1 S1=>S1.owSet hx (by rw [List.length_set,rw_len]; exact hi) rfl fun h2 S2=>hQ h2 (by rw [rw_swap f hj hi] at S2; exact S2)⟩
theorem ins_inner {s:SV}{n a b i:Nat}{f0:Nat→Int}{R1:OA→Nat→Nat→Int→Int→Int→Heap→Prop} (hn:n<4611686018427387904) (hab:a<i∧i<b∧b≤n)
    (hQ:∀ h' f,Pm a b f0 f→o.Srt a (i+1) f→St (Ow 1 s (rw n f)::L) h'→qad.j2 K R1 s.1 s.2.1 s.2.2 a b i h') :
    ∀ (fuel j:Nat) (f:Nat→Int) (h:Heap),j<fuel→a≤j→j≤i→Pm a b f0 f→InsI o a i j f→St (Ow 1 s (rw n f)::L) h→qad.L3 K R1 fuel s.1 s.2.1 s.2.2 a b i j h
  | 0,_,_,_,hf,_,_,_,_,_=>absurd hf (Nat.not_lt_zero _)
  | fuel+1,j,f,h,hf,ha,hj,pm,iv,S=>by
    unfold qad.L3
    have stop:(a<j→o.lt (f j) (f (j - 1))=false)→qad.j4 K R1 (qad.L3 K R1 fuel) s.1 s.2.1 s.2.2 a b i j false h:=by
      intro e
      unfold qad.j4
      exact ifF rfl (hQ h f pm (iv.done hj e) S)
    by_cases hgt:j > a
    · have ew:IntKind.i64.wrap ((j:Int) - 1)=((j - 1:Nat):Int):=by rw [wrapI (by omega) (by omega)]; omega
      rw [ew]
      refine ifT (by simp; omega) (less2T (i:=j) (j:=j - 1) S rfl rfl (by omega) (by omega) ?_)
      cases hl:o.lt (f j) (f (j - 1)) with
      | false=>exact stop (fun _=>hl)
      | true =>
        unfold qad.j4
        rw [ew]
        refine ifT rfl (swapT (i:=j - 1) (j:=j) S rfl rfl (by omega) (by omega) fun h2 S2=>?_)
        simp only [bd]
        exact ins_inner hn hab hQ fuel (j - 1) _ h2 (by omega) (by omega) (by omega) (pm.trans (swp_pm f ⟨by omega,by omega⟩ ⟨by omega,by omega⟩)) (iv.swap hgt hj hl) S2
    · exact ifF (by simp; omega) (stop (fun e=>absurd e hgt))
theorem ins_outer {s:SV}{n a b:Nat}{f0:Nat→Int} (hn:n<4611686018427387904) (hb:b≤n) (hK:∀ h' f,Pm a b f0 f→o.Srt a b f→St (Ow 1 s (rw n f)::L) h'→K (.tuple #[]) h') :
    ∀ (fuel i:Nat) (f:Nat→Int) (h:Heap),b - i<fuel→a<i→Pm a b f0 f→o.Srt a i f→St (Ow 1 s (rw n f)::L) h→qad.L1 K fuel s.1 s.2.1 s.2.2 a b i h
  | 0,_,_,_,hf,_,_,_,_=>absurd hf (Nat.not_lt_zero _)
  | fuel+1,i,f,h,hf,ha,pm,sr,S=>by
    unfold qad.L1
    by_cases hlt:i<b
    · refine ifT (by simp; omega) ⟨i+1,ins_inner hn ⟨ha,hlt,hb⟩ (fun h' g pg sg Sg=>?_) _ i f h (Nat.lt_succ_self _) (by omega) (Nat.le_refl _) pm (InsI.start sr) S⟩
      unfold qad.j2
      simp only [bd]
      rw [show IntKind.i64.wrap ((i:Int)+1)=((i+1:Nat):Int) by rw [wrapI (by omega) (by omega)]; omega]
      exact ins_outer hn hb hK fuel (i+1) g h' (by omega) (by omega) pg sg Sg
    · exact ifF (by simp; omega) (hK h f pm (fun p q hp hpq hq=>sr p q hp hpq (by omega)) S)
theorem insS {s:SV}{n a b:Nat}{f:Nat→Int} (S:St (Ow 1 s (rw n f)::L) h) (hn:n<4611686018427387904) (ha:a≤n) (hb:b≤n) (hK:∀ h' g,Pm a b f g→o.Srt a b g→St (Ow 1 s (rw n g)::L) h'→K (.tuple #[]) h') :
    CallsH P F.qad [.slice s.1 s.2.1 s.2.2,.int .i64 a,.int .i64 b] K h:=by
  refine qad.ok ?_
  unfold qad.p0
  simp only [bd]
  rw [show IntKind.i64.wrap ((a:Int)+1)=((a+1:Nat):Int) by rw [wrapI (by omega) (by omega)]; omega]
  exact ⟨_,ins_outer hn hb hK _ (a+1) f h (Nat.lt_succ_self _) (by omega) (Pm.refl _ _ _) (fun p q hp hpq hq=>by omega) S⟩
theorem pdq_small {s:SV}{n:Nat}{f:Nat→Int}{x:Int} (hn:n≤12) (S:St (Ow 1 s (rw n f)::L) h) (hK:∀ h' g,Pm 0 n f g→o.Srt 0 n g→St (Ow 1 s (rw n g)::L) h'→K (.tuple #[]) h') :
    CallsH P F.qaf [.slice s.1 s.2.1 s.2.2,.int .i64 0,.int .i64 (n:Int),.int .i64 x] K h:=by
  refine qaf.ok ?_
  unfold qaf.p0
  refine ⟨1,?_⟩
  unfold qaf.L1
  simp only [bd]
  rw [show IntKind.i64.wrap ((n:Int) - 0)=(n:Int) by rw [wrapI (by omega) (by omega)]; omega]
  exact ifT (by simp; omega) (insS (a:=0) (b:=n) S (by omega) (Nat.zero_le _) (Nat.le_refl _) fun h' g pg sg Sg=>⟨rfl,hK h' g pg sg Sg⟩)
theorem sortS {s:SV}{xs:List Int} (S:St (Ow 1 s (xs.map fun x=>.int .i64 x)::L) h) (hn:xs.length≤12) (d:Int)
    (hK:∀ h' (ys:List Int),ys.Perm xs→ys.Pairwise o.le→St (Ow 1 s (ys.map fun x=>.int .i64 x)::L) h'→K (.tuple #[]) h') :
    CallsH P F.qci [.slice s.1 s.2.1 s.2.2] K h:=by
  refine qci.ok ?_
  unfold qci.p0
  have em:∀ f:Nat→Int,rw xs.length f=(rowF xs.length f).map fun x=>.int .i64 x:=fun f=>by unfold rw rowF; rw [List.map_map]; rfl
  have S0:St (Ow 1 s (rw xs.length fun i=>xs.getD i d)::L) h:=by rw [em,rowF_of]; exact S
  have el:s.2.1=xs.length:=rlen S0
  obtain ⟨p,l,c⟩:=s
  subst el
  simp only [bd]
  rw [show IntKind.u64.wrap ((xs.length:Nat):Int)=((xs.length:Nat):Int) by rw [IntKind.wrap_u64]; omega]
  refine lenS (by omega) ⟨_,rfl,?_⟩
  refine pdq_small (s:=(p,xs.length,c)) hn S0 fun h' g pg sg Sg=>⟨rfl,?_⟩
  refine hK h' (rowF xs.length g) ?_ (o.srt_row sg) (by rw [← em]; exact Sg)
  have:=pg.perm
  rwa [rowF_of] at this
end
end Go.Proofs.YtjapglfpjhljpaaGreat.Pr.sort_int
end
