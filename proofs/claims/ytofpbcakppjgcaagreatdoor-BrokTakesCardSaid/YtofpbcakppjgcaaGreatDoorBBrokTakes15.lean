/- brokTakes_holds: all that the theorem needs, in a few texts (bundle.py; made of the texts that NOTES.md names). -/
import Derived.Below
import Derived.KernelRfl
import Derived.Laws.Append
import Derived.Laws.Bits64
import Derived.Laws.BitsAllLaws
import Derived.Laws.BitsLemmas
import Derived.Laws.IdiomStrings
import Derived.Laws.Sem
import Derived.Laws.Strings
import Derived.Lib.ItoaNum
import Derived.LoopN
import Derived.MapKept
import Derived.Orders
import Derived.Shelf.Lay
import Derived.Shelf.Small.Bits
import Derived.Test.YtofpbcakppjgcaaGreatDoorChecked
import Derived.WideLaws
import Derived.Test.YtofpbcakppjgcaaGreatDoorBBrokTakes2
import Derived.Test.YtofpbcakppjgcaaGreatDoorBBrokTakes3
import Derived.Test.YtofpbcakppjgcaaGreatDoorBBrokTakes4
import Derived.Test.YtofpbcakppjgcaaGreatDoorBBrokTakes5
import Derived.Test.YtofpbcakppjgcaaGreatDoorBBrokTakes8
import Derived.Test.YtofpbcakppjgcaaGreatDoorBBrokTakes9
section
namespace Go.Proofs
open Go.Shelf
shelf_lay Lays.n128 Nm 128 at Tryz as Tryz.sb128
shelf_lay Lays.n129 Nm 129 at Tryz as Tryz.sb129
theorem Tryz.sb_Len64 (x:Int) (w:World) (h0:0≤x) (h1:x≤18446744073709551615) :
    Calls Tryz.prog YtofpbcakppjgcaaGreatDoor.Pr.F.math_bits_Len64 #[.int .u64 x] w fun e w'=>e=.returned (.int .i64 (Lib.bitLen x.toNat))∧w'=w:=Any.bits_Len64 Tryz.sb129 x w h0 h1
shelf_lay Lays.n125 Nm 125 at Tryz as Tryz.sb125
theorem Tryz.sb_Len (x:Int) (w:World) (h0:0≤x) (h1:x≤18446744073709551615) :
    Calls Tryz.prog YtofpbcakppjgcaaGreatDoor.Pr.F.math_bits_Len #[.int .u64 x] w fun e w'=>e=.returned (.int .i64 (Lib.bitLen x.toNat))∧w'=w:=Any.bits_Len Tryz.sb125 x w h0 h1
end Go.Proofs
namespace Go.Proofs.YtofpbcakppjgcaaGreatDoor.Pr
open Go Go.Lift Go.Proofs
theorem len_two {x:Nat} (h1:1≤x) (h2:x<18446744073709551616):x<2 ^ Lib.bitLen x∧2 ^ Lib.bitLen x≤2 * x:=by
  obtain ⟨b1,b2,b3⟩:=Lib.bitLenAux_bounds 64 x h2 (by omega)
  refine ⟨b3,?_⟩
  show 2 ^ Lib.bitLenAux 64 x≤2 * x
  generalize Lib.bitLenAux 64 x=L at *
  obtain ⟨k,rfl⟩:∃ k,L=k+1:=⟨L - 1,by omega⟩
  rw [Nat.pow_succ]
  simp only [Nat.add_sub_cancel] at b2
  omega
theorem lenS {K:KT}{h:Heap}{x:Nat} (hx:x<18446744073709551616) (hK:K (.int .i64 (Lib.bitLen x:Nat)) h):CallsH P F.math_bits_Len [.int .u64 (x:Int)] K h:=by
  refine ⟨by kernel_rfl,fun w hw=>?_⟩
  refine (Tryz.sb_Len (x:Int) w (by omega) (by omega)).mono fun e w' hh=>?_
  obtain ⟨h1,h2⟩:=hh
  refine ⟨_,h1,?_,by rw [h2]; exact Rest.refl w⟩
  rw [h2,hw,Int.toNat_natCast]
  exact hK
theorem pow2S {K:KT}{h:Heap}{x:Nat} (h1:1≤x) (hx:x<4611686018427387904) (hK:∀ m:Nat,x<m→m≤2 * x→K (.int .u64 m) h):CallsH P F.qcw [.int .i64 x] K h:=by
  refine qcw.ok ?_
  unfold qcw.p0
  rw [show IntKind.u64.wrap (x:Int)=(x:Int) by rw [IntKind.wrap_u64]; omega]
  obtain ⟨l1,l2⟩:=len_two h1 (by omega)
  refine lenS (by omega) ⟨_,rfl,by omega,?_⟩
  simp only [bd]
  have e:shlI .u64 1 ((Lib.bitLen x:Nat):Int)=((2 ^ Lib.bitLen x:Nat):Int):=by
    have hl:Lib.bitLen x≤64:=by
      by_cases h:Lib.bitLen x≤64
      · exact h
      · have:=Nat.pow_le_pow_right (n:=2) (by omega) (show 64≤Lib.bitLen x by omega)
        have e64:(2:Nat) ^ 64=18446744073709551616:=by decide
        omega
    simp only [shlI,IntKind.bits,Int.toNat_natCast]
    rw [Nat.min_eq_left hl,Int.one_mul,IntKind.wrap_u64,show (2:Int) ^ Lib.bitLen x=((2 ^ Lib.bitLen x:Nat):Int) by rw [Int.natCast_pow]; rfl]
    omega
  rw [e]
  exact hK _ l1 l2
theorem xorS {K:KT}{h:Heap}{L:List Asr}{c:Addr}{x:Int} (S:St (Bx c [.int .u64 x]::L) h) (hK:∀ h' (y:Int),St (Bx c [.int .u64 y]::L) h'→K (.int .u64 y) h'):CallsH P F.qcy [.pointer (some c)] K h:=by
  refine qcy.ok ?_
  unfold qcy.p0
  refine ⟨c,rfl,c,rfl,x,S.c 0 rfl,by decide,x,S.c 0 rfl,c,rfl,S.wr 0 (by simp) rfl fun h1 S1=>?_⟩
  refine ⟨c,rfl,c,rfl,_,S1.c 0 rfl,by decide,_,S1.c 0 rfl,c,rfl,S1.wr 0 (by simp) rfl fun h2 S2=>?_⟩
  refine ⟨c,rfl,c,rfl,_,S2.c 0 rfl,by decide,_,S2.c 0 rfl,c,rfl,S2.wr 0 (by simp) rfl fun h3 S3=>?_⟩
  exact ⟨c,rfl,_,S3.c 0 rfl,hK h3 _ S3⟩
theorem and_le (x:Int) (m:Nat) (hm:m<18446744073709551616):∃ k:Nat,bitsI .and .u64 x (m:Int)=(k:Int)∧k≤m:=by
  have e:bitsI .and .u64 x (m:Int)=IntKind.u64.wrap (((BitVec.ofInt 64 x &&& BitVec.ofInt 64 (m:Int):BitVec 64).toNat:Nat):Int):=rfl
  have o2:BitVec.ofInt 64 (m:Int)=BitVec.ofNat 64 m:=BitVec.ofInt_natCast ..
  have e64:(2:Nat) ^ 64=18446744073709551616:=by decide
  refine ⟨(BitVec.ofInt 64 x &&& BitVec.ofInt 64 (m:Int)).toNat,?_,?_⟩
  · have hl:=(BitVec.ofInt 64 x &&& BitVec.ofInt 64 (m:Int)).isLt
    rw [e64] at hl
    rw [e,IntKind.wrap_u64]
    omega
  · rw [o2,BitVec.toNat_and,BitVec.toNat_ofNat,e64,Nat.mod_eq_of_lt hm]
    exact Nat.and_le_right
end Go.Proofs.YtofpbcakppjgcaaGreatDoor.Pr
end
section
set_option linter.unusedVariables false
set_option linter.unusedSimpArgs false
set_option linter.unusedSectionVars false
namespace Go.Proofs.YtofpbcakppjgcaaGreatDoor.Pr.sort_string
open Go Go.Lift Go.Proofs
theorem bl_cons (a b:UInt8) (x y:List UInt8):Op.bytesLess (a::x) (b::y)=(decide (a.toNat<b.toNat) || (decide (a.toNat=b.toNat) && Op.bytesLess x y)):=by
  have e1:decide (a<b)=decide (a.toNat<b.toNat):=by simp [UInt8.lt_iff_toNat_lt]
  have e2:(a==b)=decide (a.toNat=b.toNat):=by
    by_cases h:a=b
    · subst h; simp
    · have:a.toNat≠b.toNat:=fun e=>h (UInt8.toNat_inj.1 e)
      simp [h,this]
  rw [Op.bytesLess,e1,e2]
theorem bl_asym:∀ x y:List UInt8,Op.bytesLess x y=true→Op.bytesLess y x=false
  | [],[],h=>by simp [Op.bytesLess] at h
  | [],_::_,_=>by simp [Op.bytesLess]
  | _::_,[],h=>by simp [Op.bytesLess] at h
  | a::x,b::y,h=>by
    rw [bl_cons] at *
    have ih:=bl_asym x y
    rcases Nat.lt_trichotomy a.toNat b.toNat with e | e | e
    · have e1:¬ b.toNat<a.toNat:=by omega
      have e2:¬ b.toNat=a.toNat:=by omega
      simp [e1,e2]
    · simp only [e,Nat.lt_irrefl,decide_false,decide_true,Bool.false_or,Bool.true_and] at h ⊢
      exact ih h
    · have e1:¬ a.toNat<b.toNat:=by omega
      have e2:¬ a.toNat=b.toNat:=by omega
      simp [e1,e2] at h
theorem bl_trans:∀ x y z:List UInt8,Op.bytesLess y x=false→Op.bytesLess z y=false→Op.bytesLess z x=false
  | [],_,z,_,_=>by cases z <;> simp [Op.bytesLess]
  | _::_,[],_,h,_=>by simp [Op.bytesLess] at h
  | _::_,_::_,[],_,k=>by simp [Op.bytesLess] at k
  | a::x,b::y,c::z,h,k=>by
    rw [bl_cons] at *
    have ih:=bl_trans x y z
    simp only [Bool.or_eq_false_iff,Bool.and_eq_false_iff,decide_eq_false_iff_not] at *
    refine ⟨by omega,?_⟩
    by_cases e:c.toNat=a.toNat
    · refine .inr (ih ?_ ?_)
      · rcases h.2 with h2 | h2
        · omega
        · exact h2
      · rcases k.2 with k2 | k2
        · omega
        · exact k2
    · exact .inl e
def o:Lift.Ord (List UInt8) where
  lt:=Op.bytesLess
  asym:=bl_asym
  trans:=bl_trans
theorem le_anti:∀ x y:List UInt8,o.le x y→o.le y x→x=y
  | [],[],_,_=>rfl
  | [],_::_,_,h=>by simp [Lift.Ord.le,o,Op.bytesLess] at h
  | _::_,[],h,_=>by simp [Lift.Ord.le,o,Op.bytesLess] at h
  | a::x,b::y,h,k=>by
    have ih:=le_anti x y
    simp only [Lift.Ord.le,o] at *
    rw [bl_cons] at *
    simp only [Bool.or_eq_false_iff,Bool.and_eq_false_iff,decide_eq_false_iff_not] at *
    have e:a.toNat=b.toNat:=by omega
    have e':a=b:=UInt8.toNat_inj.1 e
    rw [e',ih (by rcases h.2 with h2 | h2; exact absurd e.symm h2; exact h2) (by rcases k.2 with k2 | k2; exact absurd e k2; exact k2)]
abbrev rw (n:Nat) (f:Nat→(List UInt8)):List Value:=rowF n (fun i=>.string (mkS (f i)))
theorem rw_get {n i:Nat} (f:Nat→(List UInt8)) (h:i<n):(rw n f)[i]? = some (.string (mkS (f i))):=rowF_get _ h
theorem rw_len (n:Nat) (f:Nat→(List UInt8)):(rw n f).length=n:=rowF_len _ _
theorem rw_swap {n i j:Nat} (f:Nat→(List UInt8)) (hi:i<n) (hj:j<n):((rw n f).set i (.string (mkS (f j)))).set j (.string (mkS (f i)))=rw n (swp f i j):=by
  apply List.ext_getElem?
  intro k
  by_cases hk:k<n
  · rw [rw_get _ hk,List.getElem?_set,List.getElem?_set,List.length_set,rw_len,rw_get _ hk]
    by_cases h1:j=k
    · subst h1
      rw [if_pos rfl,if_pos hj]
      by_cases h2:j=i
      · subst h2; simp [swp]
      · simp [swp,h2]
    · rw [if_neg h1]
      by_cases h2:i=k
      · subst h2
        rw [if_pos rfl,if_pos hi]
        simp [swp]
      · rw [if_neg h2]
        have h3:¬ k=i:=fun e=>h2 e.symm
        have h4:¬ k=j:=fun e=>h1 e.symm
        simp [swp,h3,h4]
  · rw [List.getElem?_eq_none (by simp [rw_len]; omega),List.getElem?_eq_none (by rw [rw_len]; omega)]
section
variable {K:KT}{L:List Asr}{h:Heap}
theorem lessS {x y:(List UInt8)} (hK:K (.bool (o.lt x y)) h):CallsH P F.qdl [.string (mkS x),.string (mkS y)] K h:=by
  refine qdl.ok ?_
  unfold qdl.p0
  refine qcz.ok ?_
  unfold qcz.p0
  refine ⟨_,rfl,?_⟩
  exact ⟨fun e=>absurd e (by simp),fun _=>hK⟩
theorem rlen {s:SV}{n:Nat}{f:Nat→(List UInt8)} (S:St (Ow 1 s (rw n f)::L) h):s.2.1=n:=by
  have:=S.ow.1
  rw [rw_len] at this
  omega
theorem less2T {s:SV}{n:Nat}{f:Nat→(List UInt8)}{x y:Int}{i j:Nat}{R:Bool→Heap→Prop} (S:St (Ow 1 s (rw n f)::L) h) (hx:x=i) (hy:y=j) (hi:i<n) (hj:j<n) (hR:R (o.lt (f i) (f j)) h) :
    ∃ p,s.1=some p∧(0:Int)≤x∧x<((s.2.1:Nat):Int)∧∃ q,s.1=some q∧(0:Int)≤y∧y<((s.2.1:Nat):Int)∧∃ u,hcell h (Addr.add p (Int.toNat x * 1))=some (.string (mkS u))∧∃ v,hcell h (Addr.add q (Int.toNat y * 1))=some (.string (mkS v)) ∧
      CallsH P F.qdl [.string (mkS u),.string (mkS v)] (fun v h'=>∃ b,v=.bool b∧R b h') h :=
  ixV S.sl hx (rw_get f hi) fun p ep cp=>ixV S.sl hy (rw_get f hj) fun q eq cq=>⟨_,cp,_,cq,lessS ⟨_,rfl,hR⟩⟩
theorem swapT {s:SV}{n:Nat}{f:Nat→(List UInt8)}{x y:Int}{i j:Nat}{Q:Heap→Prop} (S:St (Ow 1 s (rw n f)::L) h) (hx:x=i) (hy:y=j) (hi:i<n) (hj:j<n) (hQ:∀ h',St (Ow 1 s (rw n (swp f j i))::L) h'→Q h') :
    ∃ p,s.1=some p∧(0:Int)≤x∧x<((s.2.1:Nat):Int)∧∃ q,s.1=some q∧(0:Int)≤y∧y<((s.2.1:Nat):Int)∧∃ u,hcell h (Addr.add p (Int.toNat x * 1))=some (.string (mkS u))∧∃ v,hcell h (Addr.add q (Int.toNat y * 1))=some (.string (mkS v)) ∧
      ∃ p',s.1=some p'∧(0:Int)≤y∧y<((s.2.1:Nat):Int)∧∃ h1,stC h (Addr.add p' (Int.toNat y * 1)) 0 [.string (mkS u)]=some h1∧∃ q',s.1=some q'∧(0:Int)≤x∧x<((s.2.1:Nat):Int)∧∃ h2,stC h1 (Addr.add q' (Int.toNat x * 1)) 0 [.string (mkS v)]=some h2∧Q h2 :=
  ixV S.sl hx (rw_get f hi) fun p ep cp=>ixV S.sl hy (rw_get f hj) fun q eq cq=>⟨_,cp,_,cq,S.owSet hy (by rw [rw_len]; exact hj) rfl fun h1 S1=>S1.owSet hx (by rw [List.length_set,rw_len]; exact hi) rfl fun h2 S2=>hQ h2 (by rw [rw_swap f hj hi] at S2; exact S2)⟩
theorem ins_inner {s:SV}{n a b i:Nat}{f0:Nat→(List UInt8)}{R1:OA→Nat→Nat→Int→Int→Int→Heap→Prop} (hn:n<4611686018427387904) (hab:a<i∧i<b∧b≤n)
    (hQ:∀ h' f,Pm a b f0 f→o.Srt a (i+1) f→St (Ow 1 s (rw n f)::L) h'→qam.j2 K R1 s.1 s.2.1 s.2.2 a b i h') :
    ∀ (fuel j:Nat) (f:Nat→(List UInt8)) (h:Heap),j<fuel→a≤j→j≤i→Pm a b f0 f→InsI o a i j f→St (Ow 1 s (rw n f)::L) h→qam.L3 K R1 fuel s.1 s.2.1 s.2.2 a b i j h
  | 0,_,_,_,hf,_,_,_,_,_=>absurd hf (Nat.not_lt_zero _)
  | fuel+1,j,f,h,hf,ha,hj,pm,iv,S=>by
    unfold qam.L3
    have stop:(a<j→o.lt (f j) (f (j - 1))=false)→qam.j4 K R1 (qam.L3 K R1 fuel) s.1 s.2.1 s.2.2 a b i j false h:=by
      intro e
      unfold qam.j4
      exact ifF rfl (hQ h f pm (iv.done hj e) S)
    by_cases hgt:j > a
    · have ew:IntKind.i64.wrap ((j:Int) - 1)=((j - 1:Nat):Int):=by rw [wrapI (by omega) (by omega)]; omega
      rw [ew]
      refine ifT (by simp; omega) (less2T (i:=j) (j:=j - 1) S rfl rfl (by omega) (by omega) ?_)
      cases hl:o.lt (f j) (f (j - 1)) with
      | false=>exact stop (fun _=>hl)
      | true =>
        unfold qam.j4
        rw [ew]
        refine ifT rfl (swapT (i:=j - 1) (j:=j) S rfl rfl (by omega) (by omega) fun h2 S2=>?_)
        simp only [bd]
        exact ins_inner hn hab hQ fuel (j - 1) _ h2 (by omega) (by omega) (by omega) (pm.trans (swp_pm f ⟨by omega,by omega⟩ ⟨by omega,by omega⟩)) (iv.swap hgt hj hl) S2
    · exact ifF (by simp; omega) (stop (fun e=>absurd e hgt))
theorem ins_outer {s:SV}{n a b:Nat}{f0:Nat→(List UInt8)} (hn:n<4611686018427387904) (hb:b≤n) (hK:∀ h' f,Pm a b f0 f→o.Srt a b f→St (Ow 1 s (rw n f)::L) h'→K (.tuple #[]) h') :
    ∀ (fuel i:Nat) (f:Nat→(List UInt8)) (h:Heap),b - i<fuel→a<i→Pm a b f0 f→o.Srt a i f→St (Ow 1 s (rw n f)::L) h→qam.L1 K fuel s.1 s.2.1 s.2.2 a b i h
  | 0,_,_,_,hf,_,_,_,_=>absurd hf (Nat.not_lt_zero _)
  | fuel+1,i,f,h,hf,ha,pm,sr,S=>by
    unfold qam.L1
    by_cases hlt:i<b
    · refine ifT (by simp; omega) ⟨i+1,ins_inner hn ⟨ha,hlt,hb⟩ (fun h' g pg sg Sg=>?_) _ i f h (Nat.lt_succ_self _) (by omega) (Nat.le_refl _) pm (InsI.start sr) S⟩
      unfold qam.j2
      simp only [bd]
      rw [show IntKind.i64.wrap ((i:Int)+1)=((i+1:Nat):Int) by rw [wrapI (by omega) (by omega)]; omega]
      exact ins_outer hn hb hK fuel (i+1) g h' (by omega) (by omega) pg sg Sg
    · exact ifF (by simp; omega) (hK h f pm (fun p q hp hpq hq=>sr p q hp hpq (by omega)) S)
theorem insS {s:SV}{n a b:Nat}{f:Nat→(List UInt8)} (S:St (Ow 1 s (rw n f)::L) h) (hn:n<4611686018427387904) (ha:a≤n) (hb:b≤n) (hK:∀ h' g,Pm a b f g→o.Srt a b g→St (Ow 1 s (rw n g)::L) h'→K (.tuple #[]) h') :
    CallsH P F.qam [.slice s.1 s.2.1 s.2.2,.int .i64 a,.int .i64 b] K h:=by
  refine qam.ok ?_
  unfold qam.p0
  simp only [bd]
  rw [show IntKind.i64.wrap ((a:Int)+1)=((a+1:Nat):Int) by rw [wrapI (by omega) (by omega)]; omega]
  exact ⟨_,ins_outer hn hb hK _ (a+1) f h (Nat.lt_succ_self _) (by omega) (Pm.refl _ _ _) (fun p q hp hpq hq=>by omega) S⟩
abbrev sh (first:Nat) (f:Nat→(List UInt8)):Nat→(List UInt8):=fun k=>f (first+k)
theorem sh_swp (first r c:Nat) (f:Nat→(List UInt8)):sh first (swp f (first+r) (first+c))=swp (sh first f) r c:=by
  funext k
  unfold sh swp
  by_cases h1:k=r
  · subst h1; simp
  · by_cases h2:k=c
    · subst h2; simp [h1]
    · rw [if_neg (by omega),if_neg (by omega),if_neg h1,if_neg h2]
theorem sift_loop {s:SV}{n lo hi first:Nat}{f0:Nat→(List UInt8)} (hn:n<2305843009213693952) (hh:first+hi≤n∧lo≤n) (hK:∀ h' f,Pm (first+lo) (first+hi) f0 f→Heapy o lo hi (sh first f)→St (Ow 1 s (rw n f)::L) h'→K (.tuple #[]) h') :
    ∀ (fuel r:Nat) (f:Nat→(List UInt8)) (h:Heap),hi - r<fuel→lo≤r→r≤n→Pm (first+lo) (first+hi) f0 f→HeapyBut o lo hi r (sh first f)→St (Ow 1 s (rw n f)::L) h→qau.L1 K fuel s.1 s.2.1 s.2.2 hi first r h
  | 0,_,_,_,hf,_,_,_,_,_=>absurd hf (Nat.not_lt_zero _)
  | fuel+1,r,f,h,hf,hr,hrn,pm,hb,S=>by
    unfold qau.L1
    simp only [bd]
    by_cases hbig:2 * r+1 ≥ hi
    · rw [show IntKind.i64.wrap ((IntKind.i64.wrap ((2:Int) * (r:Int)))+1)=((2 * r+1:Nat):Int) by rw [wrapI (n:=2 * (r:Int)) (by omega) (by omega),wrapI (by omega) (by omega)]; omega]
      exact ifT (by simp; omega) (hK h f pm (hb.done fun c hc hlt=>by omega) S)
    rw [show IntKind.i64.wrap ((IntKind.i64.wrap ((2:Int) * (r:Int)))+1)=((2 * r+1:Nat):Int) by rw [wrapI (n:=2 * (r:Int)) (by omega) (by omega),wrapI (by omega) (by omega)]; omega]
    refine ifF (by simp; omega) ?_
    have w1:∀ k:Nat,k<hi→IntKind.i64.wrap ((first:Int)+((k:Nat):Int))=((first+k:Nat):Int):=fun k hk=>by rw [wrapI (by omega) (by omega)]; omega
    have w2:IntKind.i64.wrap (((2 * r+1:Nat):Int)+1)=((2 * r+2:Nat):Int):=by rw [wrapI (by omega) (by omega)]; omega
    have j2:∀ c:Nat,(c=2 * r+1∨c=2 * r+2)→c<hi→(∀ d,(d=2 * r+1∨d=2 * r+2)→d<hi→o.le (sh first f d) (sh first f c))→qau.j2 K (qau.L1 K fuel) s.1 s.2.1 s.2.2 hi first r c h:=by
      intro c hc hlt hmax
      unfold qau.j2
      rw [w1 r (by omega),w1 c hlt]
      refine less2T (i:=first+r) (j:=first+c) S rfl rfl (by omega) (by omega) ?_
      cases hl:o.lt (f (first+r)) (f (first+c)) with
      | false=>exact ifT rfl (hK h f pm (hb.done fun d hd hdl=>o.le_trans (hmax d hd hdl) hl) S)
      | true =>
        refine ifF rfl (swapT (i:=first+c) (j:=first+r) S rfl rfl (by omega) (by omega) fun h2 S2=>?_)
        refine sift_loop hn hh hK fuel c _ h2 (by omega) (by omega) (by omega) (pm.trans (swp_pm f ⟨by omega,by omega⟩ ⟨by omega,by omega⟩)) ?_ S2
        rw [sh_swp]
        exact hb.step hr hc hlt (o.le_of_lt hl) hmax
    rw [w2]
    by_cases h2:2 * r+2<hi
    · rw [w1 _ (by omega),show IntKind.i64.wrap (((first+(2 * r+1):Nat):Int)+1)=((first+(2 * r+2):Nat):Int) by rw [wrapI (by omega) (by omega)]; omega]
      refine ifT (by simp; omega) (less2T (i:=first+(2 * r+1)) (j:=first+(2 * r+2)) S rfl rfl (by omega) (by omega) ?_)
      unfold qau.j3
      rw [w2]
      cases hl:o.lt (f (first+(2 * r+1))) (f (first+(2 * r+2))) with
      | true =>
        refine ifT rfl ?_
        simp only [bd]
        exact j2 (2 * r+2) (.inr rfl) h2 fun d hd hdl=>by
          rcases hd with rfl | rfl
          · exact o.le_of_lt hl
          · exact o.le_refl _
      | false =>
        exact ifF rfl (j2 (2 * r+1) (.inl rfl) (by omega) fun d hd hdl=>by
          rcases hd with rfl | rfl
          · exact o.le_refl _
          · exact hl)
    · refine ifF (by simp; omega) ?_
      unfold qau.j3
      exact ifF rfl (j2 (2 * r+1) (.inl rfl) (by omega) fun d hd hdl=>by
          rcases hd with rfl | rfl
          · exact o.le_refl _
          · omega)
theorem siftS {s:SV}{n lo hi first:Nat}{f:Nat→(List UInt8)} (S:St (Ow 1 s (rw n f)::L) h) (hn:n<2305843009213693952) (hh:first+hi≤n∧lo≤n) (hb:HeapyBut o lo hi lo (sh first f))
    (hK:∀ h' g,Pm (first+lo) (first+hi) f g→Heapy o lo hi (sh first g)→St (Ow 1 s (rw n g)::L) h'→K (.tuple #[]) h'):CallsH P F.qau [.slice s.1 s.2.1 s.2.2,.int .i64 lo,.int .i64 hi,.int .i64 first] K h:=by
  refine qau.ok ?_
  unfold qau.p0
  exact ⟨_,sift_loop hn hh hK _ lo f h (Nat.lt_succ_self _) (Nat.le_refl _) hh.2 (Pm.refl _ _ _) hb S⟩
theorem heap_out {s:SV}{n hi first:Nat}{f0:Nat→(List UInt8)} (hn:n<2305843009213693952) (hh:first+hi≤n) (hK:∀ h' f,Pm first (first+hi) f0 f→o.Srt 0 hi (sh first f)→St (Ow 1 s (rw n f)::L) h'→K (.tuple #[]) h') :
    ∀ (fuel c:Nat) (f:Nat→(List UInt8)) (h:Heap) (x:Int),c<fuel→x=(c:Int) - 1→c≤hi→Pm first (first+hi) f0 f→Heapy o 0 c (sh first f)→o.Srt c hi (sh first f)→(∀ p q,p<c→c≤q→q<hi→o.le (sh first f p) (sh first f q))→St (Ow 1 s (rw n f)::L) h→qay.L2 K fuel s.1 s.2.1 s.2.2 first 0 x h
  | 0,_,_,_,_,hf,_,_,_,_,_,_,_=>absurd hf (Nat.not_lt_zero _)
  | fuel+1,c,f,h,x,hf,hx,hc,pm,hp,sr,ab,S=>by
    unfold qay.L2
    subst hx
    cases c with
    | zero=>exact ifF (by simp) (hK h f pm sr S)
    | succ c =>
      have e1:((c+1:Nat):Int) - 1=((c:Nat):Int):=by omega
      rw [e1]
      refine ifT (by simp) ?_
      have w1:IntKind.i64.wrap ((first:Int)+(c:Int))=((first+c:Nat):Int):=by rw [wrapI (by omega) (by omega)]; omega
      rw [w1]
      refine swapT (i:=first+c) (j:=first) S rfl rfl (by omega) (by omega) fun h2 S2=>?_
      have p2:Pm first (first+hi) f (swp f first (first+c)):=swp_pm f ⟨by omega,by omega⟩ ⟨by omega,by omega⟩
      have es:sh first (swp f first (first+c))=swp (sh first f) 0 c:=sh_swp first 0 c f
      have hbut:HeapyBut o 0 c 0 (sh first (swp f first (first+c))):=by
        rw [es]
        constructor
        · intro k d hk hne hd hdl
          unfold swp
          rw [if_neg (by omega),if_neg (by omega),if_neg (by omega),if_neg (by omega)]
          exact hp k d hk hd (by omega)
        · intro p d _ h0 _ _
          omega
      refine siftS (lo:=0) S2 hn ⟨by omega,by omega⟩ hbut fun h3 g pg hg Sg=>⟨rfl,?_⟩
      have pw:Pm first (first+hi) (swp f first (first+c)) g:=pg.wide (Nat.le_refl _) (by omega)
      have top:=hp.top
      have eq:∀ k,c≤k→sh first g k=swp (sh first f) 0 c k:=fun k hk=>by
        rw [← es]
        exact pg.out (.inr (by omega))
      have inn:∀ k,k<c→∃ j,j<c∧sh first g k=swp (sh first f) 0 c j:=fun k hk=>by
        obtain ⟨j,j1,j2,j3⟩:=pg.inn (k:=first+k) ⟨by omega,by omega⟩
        refine ⟨j - first,by omega,?_⟩
        rw [← es]
        show g (first+k)=swp f first (first+c) (first+(j - first))
        rw [j3,show first+(j - first)=j by omega]
      have low:∀ j,j<c→∃ i,i<c+1∧swp (sh first f) 0 c j=sh first f i:=fun j hj=>by
        unfold swp
        by_cases h0:j=0
        · rw [if_pos h0]; exact ⟨c,by omega,rfl⟩
        · rw [if_neg h0,if_neg (by omega)]; exact ⟨j,by omega,rfl⟩
      have at':swp (sh first f) 0 c c=sh first f 0:=by
        unfold swp
        by_cases h0:c=0
        · subst h0; rw [if_pos rfl]
        · rw [if_neg h0,if_pos rfl]
      have hig:∀ q,c<q→swp (sh first f) 0 c q=sh first f q:=fun q hq=>by
        unfold swp
        rw [if_neg (by omega),if_neg (by omega)]
      simp only [bd]
      rw [show IntKind.i64.wrap ((c:Int) - 1)=(c:Int) - 1 by rw [wrapI (by omega) (by omega)]]
      refine heap_out hn hh hK fuel c g h3 _ (by omega) rfl (by omega) (pm.trans (p2.trans pw)) hg ?_ ?_ Sg
      · intro x y hx hxy hy
        rw [eq x hx,eq y (by omega),hig y (by omega)]
        by_cases hxc:x=c
        · subst hxc; rw [at']; exact ab 0 y (by omega) (by omega) hy
        · rw [hig x (by omega)]; exact sr x y (by omega) hxy hy
      · intro p q hp' hq hqh
        obtain ⟨j,j1,j2⟩:=inn p hp'
        obtain ⟨i,i1,i2⟩:=low j j1
        rw [j2,i2,eq q hq]
        by_cases hqc:q=c
        · subst hqc; rw [at']; exact top i i1
        · rw [hig q (by omega)]; exact ab i q i1 (by omega) hqh
theorem heap_in {s:SV}{n hi first:Nat}{f0:Nat→(List UInt8)} (hn:n<2305843009213693952) (hh:first+hi≤n) (hi1:1≤hi) (hK:∀ h' f,Pm first (first+hi) f0 f→o.Srt 0 hi (sh first f)→St (Ow 1 s (rw n f)::L) h'→K (.tuple #[]) h') :
    ∀ (fuel m:Nat) (f:Nat→(List UInt8)) (h:Heap) (x:Int),m<fuel→x=(m:Int) - 1→m≤hi→Pm first (first+hi) f0 f→Heapy o m hi (sh first f)→St (Ow 1 s (rw n f)::L) h→qay.L3 K fuel s.1 s.2.1 s.2.2 first 0 hi x h
  | 0,_,_,_,_,hf,_,_,_,_,_=>absurd hf (Nat.not_lt_zero _)
  | fuel+1,m,f,h,x,hf,hx,hc,pm,hp,S=>by
    unfold qay.L3
    subst hx
    cases m with
    | zero =>
      refine ifF (by simp) ?_
      unfold qay.j1
      simp only [bd]
      rw [show IntKind.i64.wrap ((hi:Int) - 1)=(hi:Int) - 1 by rw [wrapI (by omega) (by omega)]]
      exact ⟨_,heap_out hn hh hK _ hi f h _ (Nat.lt_succ_self _) rfl (Nat.le_refl _) pm hp (fun x y h1 h2 h3=>by omega) (fun p q h1 h2 h3=>by omega) S⟩
    | succ m =>
      have e1:((m+1:Nat):Int) - 1=((m:Nat):Int):=by omega
      rw [e1]
      refine ifT (by simp) (siftS (lo:=m) S hn ⟨by omega,by omega⟩ ⟨?_,?_⟩ fun h3 g pg hg Sg=>⟨rfl,?_⟩)
      · intro k c hk hne hcc hl
        exact hp k c (by omega) hcc hl
      · intro p c hp' hr _ _
        omega
      · simp only [bd]
        rw [show IntKind.i64.wrap ((m:Int) - 1)=(m:Int) - 1 by rw [wrapI (by omega) (by omega)]]
        exact heap_in hn hh hi1 hK fuel m g h3 _ (by omega) rfl (by omega) (pm.trans (pg.wide (by omega) (Nat.le_refl _))) hg Sg
theorem heapS {s:SV}{n a b:Nat}{f:Nat→(List UInt8)} (S:St (Ow 1 s (rw n f)::L) h) (hn:n<2305843009213693952) (ha:a<b) (hb:b≤n) (hK:∀ h' g,Pm a b f g→o.Srt a b g→St (Ow 1 s (rw n g)::L) h'→K (.tuple #[]) h') :
    CallsH P F.qay [.slice s.1 s.2.1 s.2.2,.int .i64 a,.int .i64 b] K h:=by
  refine qay.ok ?_
  unfold qay.p0
  simp only [bd]
  rw [show IntKind.i64.wrap ((b:Int) - (a:Int))=((b - a:Nat):Int) by rw [wrapI (by omega) (by omega)]; omega]
  refine ⟨by decide,?_⟩
  have e:IntKind.i64.wrap (Int.tdiv (IntKind.i64.wrap (((b - a:Nat):Int) - 1)) 2)=(((b - a - 1) / 2+1:Nat):Int) - 1:=by
    rw [wrapI (n:=((b - a:Nat):Int) - 1) (by omega) (by omega),show ((b - a:Nat):Int) - 1=((b - a - 1:Nat):Int) by omega]
    rw [show Int.tdiv ((b - a - 1:Nat):Int) 2=(((b - a - 1) / 2:Nat):Int) from rfl,wrapI (by omega) (by omega)]
    omega
  rw [e]
  refine ⟨_,heap_in (hi:=b - a) hn (by omega) (by omega) (fun h' g pg sg Sg=>?_) _ ((b - a - 1) / 2+1) f h _ (Nat.lt_succ_self _) rfl (by omega) (Pm.refl _ _ _) (fun k c h1 h2 h3=>by omega) S⟩
  rw [show a+(b - a)=b by omega] at pg
  refine hK h' g pg (fun x y h1 h2 h3=>?_) Sg
  have:=sg (x - a) (y - a) (Nat.zero_le _) (by omega) (by omega)
  unfold sh at this
  rwa [show a+(x - a)=x by omega,show a+(y - a)=y by omega] at this
theorem rev_loop {s:SV}{n a b:Nat}{f0:Nat→(List UInt8)} (hn:n<4611686018427387904) (hb:b≤n) (hK:∀ h' f,Pm a b f0 f→St (Ow 1 s (rw n f)::L) h'→K (.tuple #[]) h') :
    ∀ (fuel i j:Nat) (f:Nat→(List UInt8)) (h:Heap),j+1 - i<fuel→a≤i→j<b→i≤b→Pm a b f0 f→St (Ow 1 s (rw n f)::L) h→qbj.L1 K fuel s.1 s.2.1 s.2.2 i j h
  | 0,_,_,_,_,hf,_,_,_,_,_=>absurd hf (Nat.not_lt_zero _)
  | fuel+1,i,j,f,h,hf,hi,hj,hib,pm,S=>by
    unfold qbj.L1
    by_cases hlt:i<j
    · refine ifT (by simp; omega) (swapT (i:=j) (j:=i) S rfl rfl (by omega) (by omega) fun h2 S2=>?_)
      simp only [bd]
      rw [show IntKind.i64.wrap ((i:Int)+1)=((i+1:Nat):Int) by rw [wrapI (by omega) (by omega)]; omega,show IntKind.i64.wrap ((j:Int) - 1)=((j - 1:Nat):Int) by rw [wrapI (by omega) (by omega)]; omega]
      exact rev_loop hn hb hK fuel (i+1) (j - 1) _ h2 (by omega) (by omega) (by omega) (by omega) (pm.trans (swp_pm f ⟨by omega,by omega⟩ ⟨by omega,by omega⟩)) S2
    · exact ifF (by simp; omega) (hK h f pm S)
theorem revS {s:SV}{n a b:Nat}{f:Nat→(List UInt8)} (S:St (Ow 1 s (rw n f)::L) h) (hn:n<4611686018427387904) (ha:a<b) (hb:b≤n) (hK:∀ h' g,Pm a b f g→St (Ow 1 s (rw n g)::L) h'→K (.tuple #[]) h') :
    CallsH P F.qbj [.slice s.1 s.2.1 s.2.2,.int .i64 a,.int .i64 b] K h:=by
  refine qbj.ok ?_
  unfold qbj.p0
  simp only [bd]
  rw [show IntKind.i64.wrap ((b:Int) - 1)=((b - 1:Nat):Int) by rw [wrapI (by omega) (by omega)]; omega]
  exact ⟨_,rev_loop hn hb hK _ a (b - 1) f h (Nat.lt_succ_self _) (Nat.le_refl _) (by omega) (by omega) (Pm.refl _ _ _) S⟩
theorem order2S {s:SV}{n:Nat}{f:Nat→(List UInt8)}{a b:Nat}{c:Addr}{cs:List Value}{x:Int} (S:St (Ow 1 s (rw n f)::Bx c [.int .i64 x]::L) h) (ha:a<n) (hb:b<n)
    (hK:∀ h' (i j:Nat) (y:Int),(i=a∧j=b∨i=b∧j=a)→St (Ow 1 s (rw n f)::Bx c [.int .i64 y]::L) h'→K (.tuple #[.int .i64 i,.int .i64 j]) h') :
    CallsH P F.qci [.slice s.1 s.2.1 s.2.2,.int .i64 a,.int .i64 b,.pointer (some c)] K h:=by
  refine qci.ok ?_
  unfold qci.p0
  refine less2T (i:=b) (j:=a) S rfl rfl hb ha ?_
  cases hl:o.lt (f b) (f a) with
  | false=>exact ifF rfl (hK h a b x (.inl ⟨rfl,rfl⟩) S)
  | true =>
    refine ifT rfl ⟨c,rfl,x,?_,c,rfl,?_⟩
    · have:=S.p1.c 0 (v:=.int .i64 x) rfl
      exact this
    · refine S.p1.wr 0 (by simp) rfl fun h' S'=>?_
      exact hK h' b a _ (.inr ⟨rfl,rfl⟩) S'.p1
theorem medianS {s:SV}{n:Nat}{f:Nat→(List UInt8)}{a b d:Nat}{c:Addr}{x:Int} (S:St (Ow 1 s (rw n f)::Bx c [.int .i64 x]::L) h) (ha:a<n) (hb:b<n) (hd:d<n)
    (hK:∀ h' (i:Nat) (y:Int),(i=a∨i=b∨i=d)→St (Ow 1 s (rw n f)::Bx c [.int .i64 y]::L) h'→K (.int .i64 i) h') :
    CallsH P F.qcg [.slice s.1 s.2.1 s.2.2,.int .i64 a,.int .i64 b,.int .i64 d,.pointer (some c)] K h:=by
  refine qcg.ok ?_
  unfold qcg.p0
  refine order2S (cs:=[]) S ha hb fun h1 a1 b1 y1 e1 S1=>⟨_,_,rfl,?_⟩
  refine order2S (cs:=[]) S1 (by omega) hd fun h2 b2 d2 y2 e2 S2=>⟨_,_,rfl,?_⟩
  refine order2S (cs:=[]) S2 (by omega) (by omega) fun h3 a3 b3 y3 e3 S3=>⟨_,_,rfl,?_⟩
  exact hK h3 b3 y3 (by omega) S3
theorem medAdjS {s:SV}{n:Nat}{f:Nat→(List UInt8)}{a:Nat}{c:Addr}{x:Int} (S:St (Ow 1 s (rw n f)::Bx c [.int .i64 x]::L) h) (hn:n<4611686018427387904) (ha:1≤a) (hb:a+1<n)
    (hK:∀ h' (i:Nat) (y:Int),(a≤i+1∧i≤a+1)→St (Ow 1 s (rw n f)::Bx c [.int .i64 y]::L) h'→K (.int .i64 i) h') :
    CallsH P F.qbx [.slice s.1 s.2.1 s.2.2,.int .i64 a,.pointer (some c)] K h:=by
  refine qbx.ok ?_
  unfold qbx.p0
  rw [show IntKind.i64.wrap ((a:Int) - 1)=((a - 1:Nat):Int) by rw [wrapI (by omega) (by omega)]; omega,show IntKind.i64.wrap ((a:Int)+1)=((a+1:Nat):Int) by rw [wrapI (by omega) (by omega)]; omega]
  exact medianS S (by omega) (by omega) (by omega) fun h' i y e S'=>⟨_,rfl,hK h' i y (by omega) S'⟩
theorem pivotS {s:SV}{n a b:Nat}{f:Nat→(List UInt8)} (S:St (Ow 1 s (rw n f)::L) h) (hn:n<4611686018427387904) (ha:a+12<b) (hb:b≤n) (hK:∀ h' (i:Nat) (y:Int),a≤i→i<b→St (Ow 1 s (rw n f)::L) h'→K (.tuple #[.int .i64 i,.int .i64 y]) h') :
    CallsH P F.qbd [.slice s.1 s.2.1 s.2.2,.int .i64 a,.int .i64 b] K h:=by
  refine qbd.ok ?_
  unfold qbd.p0
  simp only [bd]
  rw [show IntKind.i64.wrap ((b:Int) - (a:Int))=((b - a:Nat):Int) by rw [wrapI (by omega) (by omega)]; omega]
  have S0:St (Ow 1 s (rw n f)::Bx (top h) [.int .i64 0]::L) (al h #[.int .i64 0] T.int):=(S.al [.int .i64 0] T.int).p1
  have eq4:IntKind.i64.wrap (Int.tdiv ((b - a:Nat):Int) 4)=(((b - a) / 4:Nat):Int):=by
    rw [show Int.tdiv ((b - a:Nat):Int) 4=(((b - a) / 4:Nat):Int) from rfl,wrapI (by omega) (by omega)]
  have ek:∀ k:Nat,1≤k→k≤3→IntKind.i64.wrap ((a:Int)+IntKind.i64.wrap ((((b - a) / 4:Nat):Int) * ((k:Nat):Int)))=((a+(b - a) / 4 * k:Nat):Int):=fun k h1 h3=>by
    have hm:(b - a) / 4 * k≤(b - a) / 4 * 3:=Nat.mul_le_mul_left _ h3
    rw [show (((b - a) / 4:Nat):Int) * (k:Int)=(((b - a) / 4 * k:Nat):Int) by rw [Int.natCast_mul],wrapI (n:=(((b - a) / 4 * k:Nat):Int)) (by omega) (by omega),wrapI (by omega) (by omega)]
    omega
  rw [eq4,show IntKind.i64.wrap ((a:Int)+IntKind.i64.wrap ((((b - a) / 4:Nat):Int) * 1))=_ from ek 1 (by omega) (by omega),show IntKind.i64.wrap ((a:Int)+IntKind.i64.wrap ((((b - a) / 4:Nat):Int) * 2))=_ from ek 2 (by omega) (by omega),show IntKind.i64.wrap ((a:Int)+IntKind.i64.wrap ((((b - a) / 4:Nat):Int) * 3))=_ from ek 3 (by omega) (by omega)]
  refine ⟨by decide,by decide,by decide,?_⟩
  have j2:∀ (i j k:Nat) (x:Int) (h':Heap),a≤i→i<b→a≤j→j<b→a≤k→k<b→St (Ow 1 s (rw n f)::Bx (top h) [.int .i64 x]::L) h'→qbd.j2 K s.1 s.2.1 s.2.2 (top h) i j k h':=by
    intro i j k x h' i1 i2 j1 j2 k1 k2 S'
    unfold qbd.j2
    refine medianS S' (by omega) (by omega) (by omega) fun h3 m y e S3=>⟨_,rfl,?_⟩
    unfold qbd.j1
    refine ⟨y,S3.p1.c 0 rfl,?_⟩
    simp only [bd]
    have S4:St (Ow 1 s (rw n f)::L) h3:=S3.p1.tl
    exact ⟨fun _=>hK h3 m 1 (by omega) (by omega) S4,fun _=>⟨fun _=>hK h3 m 2 (by omega) (by omega) S4,fun _=>hK h3 m 0 (by omega) (by omega) S4⟩⟩
  refine ifT (by simp; omega) ?_
  by_cases h50:50≤b - a
  · refine ifT (by simp; omega) ?_
    refine medAdjS S0 hn (by omega) (by omega) fun h1 i1 y1 e1 S1=>⟨_,rfl,?_⟩
    refine medAdjS S1 hn (by omega) (by omega) fun h2 i2 y2 e2 S2=>⟨_,rfl,?_⟩
    refine medAdjS S2 hn (by omega) (by omega) fun h3 i3 y3 e3 S3=>⟨_,rfl,?_⟩
    exact j2 _ _ _ _ _ (by omega) (by omega) (by omega) (by omega) (by omega) (by omega) S3
  · exact ifF (by simp; omega) (j2 _ _ _ _ _ (by omega) (by omega) (by omega) (by omega) (by omega) (by omega) S0)
theorem wm1 {n k:Nat} (hn:n<4611686018427387904) (h1:1≤k) (h2:k≤n):IntKind.i64.wrap ((k:Int) - 1)=((k - 1:Nat):Int):=by rw [wrapI (by omega) (by omega)]; omega
theorem wp1 {n k:Nat} (hn:n<4611686018427387904) (h2:k≤n):IntKind.i64.wrap ((k:Int)+1)=((k+1:Nat):Int):=by rw [wrapI (by omega) (by omega)]; omega
section
variable {s:SV}{n a b:Nat}{f0:Nat→(List UInt8)}
variable (hn:n<4611686018427387904) (hab:a<b∧b≤n) (low0:0<a→∀ k,a≤k→k<b→o.le (f0 (a - 1)) (f0 k))
include low0 hab in
theorem pm_low {f:Nat→(List UInt8)} (pm:Pm a b f0 f) (h0:0<a) (k:Nat) (h1:a≤k) (h2:k<b):o.le (f (a - 1)) (f k):=by
  obtain ⟨j,j1,j2,j3⟩:=pm.inn ⟨h1,h2⟩
  rw [pm.out (k:=a - 1) (.inl (by omega)),j3]
  exact low0 h0 j j1 j2
include hn hab in
theorem pin_right {R:OA→Nat→Nat→Int→Int→Int→Int→Heap→Prop}{i t:Nat} (hi:a<i∧i<b) (ht:t<5)
    (hQ:∀ h' f,Pm a b f0 f→o.Srt a i f→St (Ow 1 s (rw n f)::L) h'→R s.1 s.2.1 s.2.2 a b i ((t+1:Nat):Int) h') :
    ∀ (fuel j:Nat) (f:Nat→(List UInt8)) (h:Heap),b - j<fuel→i<j→Pm a b f0 f→o.Srt a i f→St (Ow 1 s (rw n f)::L) h→qac.L5 K R fuel s.1 s.2.1 s.2.2 a b i t j h
  | 0,_,_,_,hf,_,_,_,_=>absurd hf (Nat.not_lt_zero _)
  | fuel+1,j,f,h,hf,hj,pm,sr,S=>by
    unfold qac.L5
    have j2:qac.j2 K R s.1 s.2.1 s.2.2 a b i t h:=by
      unfold qac.j2
      simp only [bd]
      rw [wp1 (n:=5) (by omega) (by omega)]
      exact hQ h f pm sr S
    by_cases hlt:j<b
    · rw [wm1 (n:=n) hn (by omega) (by omega)]
      refine ifT (by simp; omega) (less2T (i:=j) (j:=j - 1) S rfl rfl (by omega) (by omega) ?_)
      cases hl:o.lt (f j) (f (j - 1)) with
      | false=>exact ifT rfl j2
      | true =>
        refine ifF rfl (swapT (i:=j - 1) (j:=j) S rfl rfl (by omega) (by omega) fun h2 S2=>?_)
        simp only [bd]
        rw [wp1 (n:=n) hn (by omega)]
        refine pin_right hi ht hQ fuel (j+1) _ h2 (by omega) (by omega) (pm.trans (swp_pm f ⟨by omega,by omega⟩ ⟨by omega,by omega⟩)) ?_ S2
        intro x y hx hxy hy
        unfold swp
        rw [if_neg (by omega),if_neg (by omega),if_neg (by omega),if_neg (by omega)]
        exact sr x y hx hxy hy
    · exact ifF (by simp; omega) j2
include hn hab in
theorem pin_j4 {R:OA→Nat→Nat→Int→Int→Int→Int→Heap→Prop}{i t:Nat} (hi:a<i∧i<b) (ht:t<5)
    (hQ:∀ h' f,Pm a b f0 f→o.Srt a i f→St (Ow 1 s (rw n f)::L) h'→R s.1 s.2.1 s.2.2 a b i ((t+1:Nat):Int) h') {f:Nat→(List UInt8)}{h:Heap} (pm:Pm a b f0 f) (sr:o.Srt a i f) (S:St (Ow 1 s (rw n f)::L) h) :
    qac.j4 K R s.1 s.2.1 s.2.2 a b i t h:=by
  unfold qac.j4
  rw [show IntKind.i64.wrap ((b:Int) - (i:Int))=((b - i:Nat):Int) by rw [wrapI (by omega) (by omega)]; omega]
  simp only [bd]
  rw [wp1 (n:=n) hn (by omega)]
  by_cases h2:2≤b - i
  · exact ifT (by simp; omega) ⟨_,pin_right hn hab hi ht hQ _ (i+1) f h (Nat.lt_succ_self _) (by omega) pm sr S⟩
  · refine ifF (by simp; omega) ?_
    unfold qac.j2
    simp only [bd]
    rw [wp1 (n:=5) (by omega) (by omega)]
    exact hQ h f pm sr S
include hn hab low0 in
theorem pin_left {R:OA→Nat→Nat→Int→Int→Int→Int→Heap→Prop}{i t:Nat} (hi:a<i∧i<b) (ht:t<5)
    (hQ:∀ h' f,Pm a b f0 f→o.Srt a i f→St (Ow 1 s (rw n f)::L) h'→R s.1 s.2.1 s.2.2 a b i ((t+1:Nat):Int) h') :
    ∀ (fuel j:Nat) (f:Nat→(List UInt8)) (h:Heap),j<fuel→a≤j→j<i→Pm a b f0 f→InsI o a (i - 1) j f→St (Ow 1 s (rw n f)::L) h→qac.L6 K R fuel s.1 s.2.1 s.2.2 a b i t j h
  | 0,_,_,_,hf,_,_,_,_,_=>absurd hf (Nat.not_lt_zero _)
  | fuel+1,j,f,h,hf,ha,hj,pm,iv,S=>by
    unfold qac.L6
    have stop:(a<j→o.lt (f j) (f (j - 1))=false)→qac.j4 K R s.1 s.2.1 s.2.2 a b i t h:=fun e=>by
      have:=iv.done (by omega) e
      rw [show i - 1+1=i by omega] at this
      exact pin_j4 hn hab hi ht hQ pm this S
    by_cases h1:1≤j
    · rw [wm1 (n:=n) hn (by omega) (by omega)]
      refine ifT (by simp; omega) (less2T (i:=j) (j:=j - 1) S rfl rfl (by omega) (by omega) ?_)
      cases hl:o.lt (f j) (f (j - 1)) with
      | false=>exact ifT rfl (stop fun _=>hl)
      | true =>
        have hgt:a<j:=by
          by_cases h:a<j
          · exact h
          · have e:j=a:=by omega
            subst e
            have:=pm_low hab low0 pm (by omega) j (Nat.le_refl _) (by omega)
            unfold Lift.Ord.le at this
            rw [hl] at this
            cases this
        refine ifF rfl (swapT (i:=j - 1) (j:=j) S rfl rfl (by omega) (by omega) fun h2 S2=>?_)
        simp only [bd]
        exact pin_left hi ht hQ fuel (j - 1) _ h2 (by omega) (by omega) (by omega) (pm.trans (swp_pm f ⟨by omega,by omega⟩ ⟨by omega,by omega⟩)) (iv.swap hgt (by omega) hl) S2
    · exact ifF (by simp; omega) (stop fun e=>by omega)
include hn hab low0 in
theorem pin_j3 {R:OA→Nat→Nat→Int→Int→Int→Int→Heap→Prop}{i t:Nat} (hi:a<i∧i≤b) (ht:t<5) (hF:∀ h' f,Pm a b f0 f→St (Ow 1 s (rw n f)::L) h'→K (.bool false) h') (hT:∀ h' f,Pm a b f0 f→o.Srt a b f→St (Ow 1 s (rw n f)::L) h'→K (.bool true) h')
    (hQ:i<b→∀ h' f,Pm a b f0 f→o.Srt a i f→St (Ow 1 s (rw n f)::L) h'→R s.1 s.2.1 s.2.2 a b i ((t+1:Nat):Int) h') {f:Nat→(List UInt8)}{h:Heap} (pm:Pm a b f0 f) (sr:o.Srt a i f) (hlt:i<b→o.lt (f i) (f (i - 1))=true) (S:St (Ow 1 s (rw n f)::L) h) :
    qac.j3 K R s.1 s.2.1 s.2.2 a b i t h:=by
  unfold qac.j3
  by_cases he:i=b
  · subst he
    exact ifT (by simp) (hT h f pm sr S)
  · refine ifF (by simp; omega) ?_
    have hib:i<b:=by omega
    cases decide (IntKind.i64.wrap ((b:Int) - (a:Int))<50) with
    | true=>exact ifT rfl (hF h f pm S)
    | false =>
      rw [wm1 (n:=n) hn (by omega) (by omega)]
      refine ifF rfl (swapT (i:=i - 1) (j:=i) S rfl rfl (by omega) (by omega) fun h2 S2=>?_)
      have pm2:Pm a b f0 (swp f i (i - 1)):=pm.trans (swp_pm f ⟨by omega,by omega⟩ ⟨by omega,by omega⟩)
      have sr2:o.Srt a (i - 1) (swp f i (i - 1)):=fun x y hx hxy hy=>by
        unfold swp
        rw [if_neg (by omega),if_neg (by omega),if_neg (by omega),if_neg (by omega)]
        exact sr x y hx hxy (by omega)
      rw [show IntKind.i64.wrap ((i:Int) - (a:Int))=((i - a:Nat):Int) by rw [wrapI (by omega) (by omega)]; omega]
      simp only [bd]
      by_cases h2i:2≤i - a
      · exact ifT (by simp; omega) ⟨_,pin_left hn hab low0 ⟨hi.1,hib⟩ ht (hQ hib) _ (i - 1) _ h2 (Nat.lt_succ_self _) (by omega) (by omega) pm2 (InsI.start sr2) S2⟩
      · refine ifF (by simp; omega) (pin_j4 hn hab ⟨hi.1,hib⟩ ht (hQ hib) pm2 (fun x y hx hxy hy=>by omega) S2)
include hn hab low0 in
theorem pin_scan {R:OA→Nat→Nat→Int→Int→Int→Int→Heap→Prop}{t:Nat} (ht:t<5) (hF:∀ h' f,Pm a b f0 f→St (Ow 1 s (rw n f)::L) h'→K (.bool false) h') (hT:∀ h' f,Pm a b f0 f→o.Srt a b f→St (Ow 1 s (rw n f)::L) h'→K (.bool true) h')
    (hQ:∀ h' f (i:Nat),a<i→i<b→Pm a b f0 f→o.Srt a i f→St (Ow 1 s (rw n f)::L) h'→R s.1 s.2.1 s.2.2 a b i ((t+1:Nat):Int) h') :
    ∀ (fuel i:Nat) (f:Nat→(List UInt8)) (h:Heap),b - i<fuel→a<i→i≤b→Pm a b f0 f→o.Srt a i f→St (Ow 1 s (rw n f)::L) h→qac.L7 K R fuel s.1 s.2.1 s.2.2 a b i t h
  | 0,_,_,_,hf,_,_,_,_,_=>absurd hf (Nat.not_lt_zero _)
  | fuel+1,i,f,h,hf,ha,hi,pm,sr,S=>by
    unfold qac.L7
    unfold qac.j8
    by_cases hlt:i<b
    · rw [wm1 (n:=n) hn (by omega) (by omega)]
      refine ifT (by simp; omega) (less2T (i:=i) (j:=i - 1) S rfl rfl (by omega) (by omega) ?_)
      cases hl:o.lt (f i) (f (i - 1)) with
      | true=>exact ifF rfl (pin_j3 hn hab low0 ⟨ha,hi⟩ ht hF hT (fun hib h' g pg sg Sg=>hQ h' g i ha hib pg sg Sg) pm sr (fun _=>hl) S)
      | false =>
        refine ifT rfl ?_
        simp only [bd]
        rw [wp1 (n:=n) hn (by omega)]
        refine pin_scan ht hF hT hQ fuel (i+1) f h (by omega) (by omega) (by omega) pm ?_ S
        intro x y hx hxy hy
        by_cases hyi:y=i
        · subst hyi
          by_cases hxe:x=y - 1
          · subst hxe; exact hl
          · exact o.le_trans (sr x (y - 1) hx (by omega) (by omega)) hl
        · exact sr x y hx hxy (by omega)
    · exact ifF (by simp; omega) (ifF rfl (pin_j3 hn hab low0 ⟨ha,hi⟩ ht hF hT (fun hib=>absurd hib hlt) pm sr (fun hib=>absurd hib hlt) S))
include hn hab low0 in
theorem pin_steps (hF:∀ h' f,Pm a b f0 f→St (Ow 1 s (rw n f)::L) h'→K (.bool false) h') (hT:∀ h' f,Pm a b f0 f→o.Srt a b f→St (Ow 1 s (rw n f)::L) h'→K (.bool true) h') :
    ∀ (fuel i t:Nat) (f:Nat→(List UInt8)) (h:Heap),5 - t<fuel→t≤5→a<i→i≤b→Pm a b f0 f→o.Srt a i f→St (Ow 1 s (rw n f)::L) h→qac.L1 K fuel s.1 s.2.1 s.2.2 a b i t h
  | 0,_,_,_,_,hf,_,_,_,_,_,_=>absurd hf (Nat.not_lt_zero _)
  | fuel+1,i,t,f,h,hf,ht,ha,hi,pm,sr,S=>by
    unfold qac.L1
    by_cases hlt:t<5
    · exact ifT (by simp; omega) ⟨_,pin_scan hn hab low0 hlt hF hT (fun h' g k k1 k2 pg sg Sg=>pin_steps hF hT fuel k (t+1) g h' (by omega) (by omega) k1 (by omega) pg sg Sg) _ i f h (Nat.lt_succ_self _) ha hi pm sr S⟩
    · exact ifF (by simp; omega) (hF h f pm S)
include hn hab low0 in
theorem pinS {h:Heap} (S:St (Ow 1 s (rw n f0)::L) h) (hF:∀ h' f,Pm a b f0 f→St (Ow 1 s (rw n f)::L) h'→K (.bool false) h') (hT:∀ h' f,Pm a b f0 f→o.Srt a b f→St (Ow 1 s (rw n f)::L) h'→K (.bool true) h') :
    CallsH P F.qac [.slice s.1 s.2.1 s.2.2,.int .i64 a,.int .i64 b] K h:=by
  refine qac.ok ?_
  unfold qac.p0
  simp only [bd]
  rw [wp1 (n:=n) hn (by omega)]
  exact ⟨_,pin_steps hn hab low0 hF hT _ (a+1) 0 f0 h (Nat.lt_succ_self _) (by omega) (by omega) (by omega) (Pm.refl _ _ _) (fun x y hx hxy hy=>by omega) S⟩
end
section
variable {s:SV}{n a b:Nat}{f0:Nat→(List UInt8)}
variable (hn:n<4611686018427387904) (hb:b≤n)
structure PtI (a b:Nat) (f0:Nat→(List UInt8)) (i j:Nat) (f:Nat→(List UInt8)):Prop where
  hi:a<i
  hij:i≤j+1
  hj:j<b
  pm:Pm a b f0 f
  lo:∀ k,a<k→k<i→o.lt (f k) (f a)=true
  hi':∀ k,j<k→k<b→o.lt (f k) (f a)=false
theorem PtI.up {i j:Nat}{f:Nat→(List UInt8)} (p:PtI a b f0 i j f) (hij:i≤j) (h:o.lt (f i) (f a)=true):PtI a b f0 (i+1) j f :=
  ⟨by have:=p.hi; omega,by omega,p.hj,p.pm,fun k h1 h2=>by
    by_cases e:k=i
    · subst e; exact h
    · exact p.lo k h1 (by omega),p.hi'⟩
theorem PtI.down {i j:Nat}{f:Nat→(List UInt8)} (p:PtI a b f0 i j f) (hij:i≤j) (h:o.lt (f j) (f a)=false):PtI a b f0 i (j - 1) f :=
  ⟨p.hi,by omega,by have:=p.hj; omega,p.pm,p.lo,fun k h1 h2=>by
    by_cases e:k=j
    · subst e; exact h
    · exact p.hi' k (by omega) h2⟩
theorem PtI.swap {i j:Nat}{f:Nat→(List UInt8)} (p:PtI a b f0 i j f) (hij:i≤j) (h1:o.lt (f i) (f a)=false) (h2:o.lt (f j) (f a)=true):i<j∧PtI a b f0 (i+1) (j - 1) (swp f i j):=by
  have hne:i≠j:=fun e=>by subst e; rw [h1] at h2; cases h2
  have:=p.hi
  have:=p.hj
  have ea:swp f i j a=f a:=by unfold swp; rw [if_neg (by omega),if_neg (by omega)]
  refine ⟨by omega,by omega,by omega,by omega,p.pm.trans (swp_pm f ⟨by omega,by omega⟩ ⟨by omega,by omega⟩),fun k k1 k2=>?_,fun k k1 k2=>?_⟩
  · rw [ea]
    unfold swp
    by_cases e:k=i
    · rw [if_pos e]; exact h2
    · rw [if_neg e,if_neg (by omega)]; exact p.lo k k1 (by omega)
  · rw [ea]
    unfold swp
    rw [if_neg (by omega)]
    by_cases e:k=j
    · rw [if_pos e]; exact h1
    · rw [if_neg e]; exact p.hi' k (by omega) k2
theorem PtI.fin {i j:Nat}{f:Nat→(List UInt8)} (p:PtI a b f0 i j f) (hij:j<i):Pm a b f0 (swp f j a)∧(a≤j∧j<b)∧(∀ k,a≤k→k<j→o.le (swp f j a k) (swp f j a j))∧∀ k,j<k→k<b→o.le (swp f j a j) (swp f j a k):=by
  have:=p.hi
  have:=p.hj
  have:=p.hij
  have ej:swp f j a j=f a:=by unfold swp; rw [if_pos rfl]
  refine ⟨p.pm.trans (swp_pm f ⟨by omega,by omega⟩ ⟨by omega,by omega⟩),⟨by omega,by omega⟩,fun k k1 k2=>?_,fun k k1 k2=>?_⟩
  · rw [ej]
    unfold swp
    rw [if_neg (by omega)]
    by_cases e:k=a
    · rw [if_pos e]; exact o.le_of_lt (p.lo j (by omega) (by omega))
    · rw [if_neg e]; exact o.le_of_lt (p.lo k (by omega) (by omega))
  · rw [ej]
    unfold swp
    rw [if_neg (by omega),if_neg (by omega)]
    exact p.hi' k k1 k2
abbrev PtQ (K:KT) (L:List Asr) (s:SV) (n a b:Nat) (f0:Nat→(List UInt8)):Prop:=∀ h' g (m:Nat) (d:Bool),Pm a b f0 g→(a≤m∧m<b)→(∀ k,a≤k→k<m→o.le (g k) (g m))→(∀ k,m<k→k<b→o.le (g m) (g k))→St (Ow 1 s (rw n g)::L) h'→K (.tuple #[.int .i64 m,.bool d]) h'
include hn hb in
theorem pt_j6 {R:OA→Nat→Nat→Int→Int→Int→Heap→Prop} (hK:PtQ K L s n a b f0) {i j:Nat}{f:Nat→(List UInt8)}{h:Heap} (hR:∀ (i' j':Nat) g h',j'+1 - i'<j+1 - i→PtI a b f0 i' j' g→St (Ow 1 s (rw n g)::L) h'→R s.1 s.2.1 s.2.2 a i' j' h')
    (p:PtI a b f0 i j f) (e1:i≤j→o.lt (f i) (f a)=false) (e2:i≤j→o.lt (f j) (f a)=true) (S:St (Ow 1 s (rw n f)::L) h):qaa.j6 K R s.1 s.2.1 s.2.2 a i j h:=by
  unfold qaa.j6
  have:=p.hi
  have:=p.hj
  have:=p.hij
  by_cases hij:j<i
  · refine ifT (by simp; omega) ?_
    unfold qaa.j3
    refine swapT (i:=a) (j:=j) S rfl rfl (by omega) (by omega) fun h2 S2=>?_
    obtain ⟨q1,q2,q3,q4⟩:=p.fin hij
    exact hK h2 _ j false q1 q2 q3 q4 S2
  · obtain ⟨hlt,p2⟩:=p.swap (by omega) (e1 (by omega)) (e2 (by omega))
    refine ifF (by simp; omega) (swapT (i:=j) (j:=i) S rfl rfl (by omega) (by omega) fun h2 S2=>?_)
    simp only [bd]
    rw [wp1 (n:=n) hn (by omega),wm1 (n:=n) hn (by omega) (by omega)]
    exact hR (i+1) (j - 1) _ h2 (by omega) p2 S2
include hn hb in
theorem pt_L7 {R:OA→Nat→Nat→Int→Int→Int→Heap→Prop} (hK:PtQ K L s n a b f0) {i m:Nat} (hR:∀ (i' j':Nat) g h',j'+1 - i'<m→PtI a b f0 i' j' g→St (Ow 1 s (rw n g)::L) h'→R s.1 s.2.1 s.2.2 a i' j' h') :
    ∀ (fuel j:Nat) (f:Nat→(List UInt8)) (h:Heap),j+1 - i<fuel→j+1 - i≤m→PtI a b f0 i j f→(i≤j→o.lt (f i) (f a)=false)→St (Ow 1 s (rw n f)::L) h→qaa.L7 K R fuel s.1 s.2.1 s.2.2 a i j h
  | 0,_,_,_,hf,_,_,_,_=>absurd hf (Nat.not_lt_zero _)
  | fuel+1,j,f,h,hf,hm,p,e1,S=>by
    unfold qaa.L7
    unfold qaa.j8
    have:=p.hi
    have:=p.hj
    have:=p.hij
    have fin:(i≤j→o.lt (f j) (f a)=true)→qaa.j6 K R s.1 s.2.1 s.2.2 a i j h:=fun e2=>pt_j6 hn hb hK (fun i' j' g h' hlt=>hR i' j' g h' (by omega)) p e1 e2 S
    by_cases hij:i≤j
    · refine ifT (by simp; omega) (less2T (i:=j) (j:=a) S rfl rfl (by omega) (by omega) ?_)
      cases hl:o.lt (f j) (f a) with
      | true=>exact ifF rfl (fin fun _=>hl)
      | false =>
        refine ifT rfl ?_
        simp only [bd]
        rw [wm1 (n:=n) hn (by omega) (by omega)]
        exact pt_L7 hK hR fuel (j - 1) f h (by omega) (by omega) (p.down hij hl) (fun hle=>e1 hij) S
    · exact ifF (by simp; omega) (ifF rfl (fin fun e=>absurd e hij))
include hn hb in
theorem pt_L9 {R:OA→Nat→Nat→Int→Int→Int→Heap→Prop} (hK:PtQ K L s n a b f0) {j m:Nat} (hR:∀ (i' j':Nat) g h',j'+1 - i'<m→PtI a b f0 i' j' g→St (Ow 1 s (rw n g)::L) h'→R s.1 s.2.1 s.2.2 a i' j' h') :
    ∀ (fuel i:Nat) (f:Nat→(List UInt8)) (h:Heap),j+1 - i<fuel→j+1 - i≤m→PtI a b f0 i j f→St (Ow 1 s (rw n f)::L) h→qaa.L9 K R fuel s.1 s.2.1 s.2.2 a i j h
  | 0,_,_,_,hf,_,_,_=>absurd hf (Nat.not_lt_zero _)
  | fuel+1,i,f,h,hf,hm,p,S=>by
    unfold qaa.L9
    unfold qaa.j10
    have:=p.hi
    have:=p.hj
    have:=p.hij
    have fin:(i≤j→o.lt (f i) (f a)=false)→qaa.j5 K R s.1 s.2.1 s.2.2 a i j h:=fun e1=>by
      unfold qaa.j5
      exact ⟨_,pt_L7 hn hb hK hR _ j f h (Nat.lt_succ_self _) hm p e1 S⟩
    by_cases hij:i≤j
    · refine ifT (by simp; omega) (less2T (i:=i) (j:=a) S rfl rfl (by omega) (by omega) ?_)
      cases hl:o.lt (f i) (f a) with
      | false=>exact ifF rfl (fin fun _=>hl)
      | true =>
        refine ifT rfl ?_
        simp only [bd]
        rw [wp1 (n:=n) hn (by omega)]
        exact pt_L9 hK hR fuel (i+1) f h (by omega) (by omega) (p.up hij hl) S
    · exact ifF (by simp; omega) (ifF rfl (fin fun e=>absurd e hij))
include hn hb in
theorem pt_L4 (hK:PtQ K L s n a b f0):∀ (fuel i j:Nat) (f:Nat→(List UInt8)) (h:Heap),j+1 - i<fuel→PtI a b f0 i j f→St (Ow 1 s (rw n f)::L) h→qaa.L4 K fuel s.1 s.2.1 s.2.2 a i j h
  | 0,_,_,_,_,hf,_,_=>absurd hf (Nat.not_lt_zero _)
  | fuel+1,i,j,f,h,hf,p,S=>by
    unfold qaa.L4
    exact ⟨_,pt_L9 hn hb hK (m:=j+1 - i) (fun i' j' g h' hlt p' S'=>pt_L4 hK fuel i' j' g h' (by omega) p' S') _ i f h (Nat.lt_succ_self _) (Nat.le_refl _) p S⟩
include hn hb in
theorem pt_j2 (hK:PtQ K L s n a b f0) {i j:Nat}{f:Nat→(List UInt8)}{h:Heap} (p:PtI a b f0 i j f) (e1:i≤j→o.lt (f i) (f a)=false) (e2:i≤j→o.lt (f j) (f a)=true) (S:St (Ow 1 s (rw n f)::L) h):qaa.j2 K s.1 s.2.1 s.2.2 a i j h:=by
  unfold qaa.j2
  have:=p.hi
  have:=p.hj
  have:=p.hij
  by_cases hij:j<i
  · refine ifT (by simp; omega) ?_
    refine swapT (i:=a) (j:=j) S rfl rfl (by omega) (by omega) fun h2 S2=>?_
    obtain ⟨q1,q2,q3,q4⟩:=p.fin hij
    exact hK h2 _ j true q1 q2 q3 q4 S2
  · obtain ⟨hlt,p2⟩:=p.swap (by omega) (e1 (by omega)) (e2 (by omega))
    refine ifF (by simp; omega) (swapT (i:=j) (j:=i) S rfl rfl (by omega) (by omega) fun h2 S2=>?_)
    simp only [bd]
    rw [wp1 (n:=n) hn (by omega),wm1 (n:=n) hn (by omega) (by omega)]
    exact ⟨_,pt_L4 hn hb hK _ (i+1) (j - 1) _ h2 (Nat.lt_succ_self _) p2 S2⟩
include hn hb in
theorem pt_L11 (hK:PtQ K L s n a b f0) {i:Nat} :
    ∀ (fuel j:Nat) (f:Nat→(List UInt8)) (h:Heap),j+1 - i<fuel→PtI a b f0 i j f→(i≤j→o.lt (f i) (f a)=false)→St (Ow 1 s (rw n f)::L) h→qaa.L11 K fuel s.1 s.2.1 s.2.2 a i j h
  | 0,_,_,_,hf,_,_,_=>absurd hf (Nat.not_lt_zero _)
  | fuel+1,j,f,h,hf,p,e1,S=>by
    unfold qaa.L11
    unfold qaa.j12
    have:=p.hi
    have:=p.hj
    have:=p.hij
    by_cases hij:i≤j
    · refine ifT (by simp; omega) (less2T (i:=j) (j:=a) S rfl rfl (by omega) (by omega) ?_)
      cases hl:o.lt (f j) (f a) with
      | true=>exact ifF rfl (pt_j2 hn hb hK p e1 (fun _=>hl) S)
      | false =>
        refine ifT rfl ?_
        simp only [bd]
        rw [wm1 (n:=n) hn (by omega) (by omega)]
        exact pt_L11 hK fuel (j - 1) f h (by omega) (p.down hij hl) (fun hle=>e1 hij) S
    · exact ifF (by simp; omega) (ifF rfl (pt_j2 hn hb hK p e1 (fun e=>absurd e hij) S))
include hn hb in
theorem pt_L13 (hK:PtQ K L s n a b f0) {j:Nat} :
    ∀ (fuel i:Nat) (f:Nat→(List UInt8)) (h:Heap),j+1 - i<fuel→PtI a b f0 i j f→St (Ow 1 s (rw n f)::L) h→qaa.L13 K fuel s.1 s.2.1 s.2.2 a i j h
  | 0,_,_,_,hf,_,_=>absurd hf (Nat.not_lt_zero _)
  | fuel+1,i,f,h,hf,p,S=>by
    unfold qaa.L13
    unfold qaa.j14
    have:=p.hi
    have:=p.hj
    have:=p.hij
    have fin:(i≤j→o.lt (f i) (f a)=false)→qaa.j1 K s.1 s.2.1 s.2.2 a i j h:=fun e1=>by
      unfold qaa.j1
      exact ⟨_,pt_L11 hn hb hK _ j f h (Nat.lt_succ_self _) p e1 S⟩
    by_cases hij:i≤j
    · refine ifT (by simp; omega) (less2T (i:=i) (j:=a) S rfl rfl (by omega) (by omega) ?_)
      cases hl:o.lt (f i) (f a) with
      | false=>exact ifF rfl (fin fun _=>hl)
      | true =>
        refine ifT rfl ?_
        simp only [bd]
        rw [wp1 (n:=n) hn (by omega)]
        exact pt_L13 hK fuel (i+1) f h (by omega) (p.up hij hl) S
    · exact ifF (by simp; omega) (ifF rfl (fin fun e=>absurd e hij))
include hn hb in
theorem partS {c:Nat}{h:Heap} (S:St (Ow 1 s (rw n f0)::L) h) (hc:a≤c∧c<b) (hK:PtQ K L s n a b f0) :
    CallsH P F.qaa [.slice s.1 s.2.1 s.2.2,.int .i64 a,.int .i64 b,.int .i64 c] K h:=by
  refine qaa.ok ?_
  unfold qaa.p0
  refine swapT (i:=c) (j:=a) S rfl rfl (by omega) (by omega) fun h2 S2=>?_
  simp only [bd]
  rw [wp1 (n:=n) hn (by omega),wm1 (n:=n) hn (by omega) (by omega)]
  exact ⟨_,pt_L13 hn hb hK _ (a+1) _ h2 (Nat.lt_succ_self _) ⟨by omega,by omega,by omega,swp_pm f0 ⟨by omega,by omega⟩ ⟨by omega,by omega⟩,fun k h1 h2=>by omega,fun k h1 h2=>by omega⟩ S2⟩
end
section
variable {s:SV}{n a b:Nat}{f0:Nat→(List UInt8)}{v:(List UInt8)}
variable (hn:n<4611686018427387904) (hb:b≤n)
structure PeI (a b:Nat) (f0:Nat→(List UInt8)) (v:(List UInt8)) (i j:Nat) (f:Nat→(List UInt8)):Prop where
  hi:a<i
  hij:i≤j+1
  hj:j<b
  pm:Pm a b f0 f
  ev:f a=v
  lo:∀ k,a≤k→k<i→o.le (f k) v
theorem PeI.up {i j:Nat}{f:Nat→(List UInt8)} (p:PeI a b f0 v i j f) (hij:i≤j) (h:o.lt (f a) (f i)=false):PeI a b f0 v (i+1) j f :=
  ⟨by have:=p.hi; omega,by omega,p.hj,p.pm,p.ev,fun k h1 h2=>by
    by_cases e:k=i
    · subst e; rw [p.ev] at h; exact h
    · exact p.lo k h1 (by omega)⟩
theorem PeI.down {i j:Nat}{f:Nat→(List UInt8)} (p:PeI a b f0 v i j f) (hij:i≤j):PeI a b f0 v i (j - 1) f :=
  ⟨p.hi,by omega,by have:=p.hj; omega,p.pm,p.ev,p.lo⟩
theorem PeI.swap {i j:Nat}{f:Nat→(List UInt8)} (p:PeI a b f0 v i j f) (hij:i≤j) (h1:o.lt (f a) (f i)=true) (h2:o.lt (f a) (f j)=false):i<j∧PeI a b f0 v (i+1) (j - 1) (swp f i j):=by
  have hne:i≠j:=fun e=>by subst e; rw [h1] at h2; cases h2
  have:=p.hi
  have:=p.hj
  have ea:swp f i j a=f a:=by unfold swp; rw [if_neg (by omega),if_neg (by omega)]
  refine ⟨by omega,by omega,by omega,by omega,p.pm.trans (swp_pm f ⟨by omega,by omega⟩ ⟨by omega,by omega⟩),by rw [ea]; exact p.ev,fun k k1 k2=>?_⟩
  unfold swp
  by_cases e:k=i
  · rw [if_pos e]; rw [p.ev] at h2; exact h2
  · rw [if_neg e,if_neg (by omega)]; exact p.lo k k1 (by omega)
abbrev PeQ (K:KT) (L:List Asr) (s:SV) (n a b:Nat) (f0:Nat→(List UInt8)) (v:(List UInt8)):Prop:=∀ h' g (m:Nat),Pm a b f0 g→(a<m∧m≤b)→(∀ k,a≤k→k<m→o.le (g k) v)→St (Ow 1 s (rw n g)::L) h'→K (.int .i64 m) h'
include hn hb in
theorem pe_j3 {R:OA→Nat→Nat→Int→Int→Int→Heap→Prop} (hK:PeQ K L s n a b f0 v) {i j:Nat}{f:Nat→(List UInt8)}{h:Heap} (hR:∀ (i' j':Nat) g h',j'+1 - i'<j+1 - i→PeI a b f0 v i' j' g→St (Ow 1 s (rw n g)::L) h'→R s.1 s.2.1 s.2.2 a i' j' h')
    (p:PeI a b f0 v i j f) (e1:i≤j→o.lt (f a) (f i)=true) (e2:i≤j→o.lt (f a) (f j)=false) (S:St (Ow 1 s (rw n f)::L) h):qaf.j3 K R s.1 s.2.1 s.2.2 a i j h:=by
  unfold qaf.j3
  have:=p.hi
  have:=p.hj
  have:=p.hij
  by_cases hij:j<i
  · exact ifT (by simp; omega) (hK h f i p.pm ⟨by omega,by omega⟩ p.lo S)
  · obtain ⟨hlt,p2⟩:=p.swap (by omega) (e1 (by omega)) (e2 (by omega))
    refine ifF (by simp; omega) (swapT (i:=j) (j:=i) S rfl rfl (by omega) (by omega) fun h2 S2=>?_)
    simp only [bd]
    rw [wp1 (n:=n) hn (by omega),wm1 (n:=n) hn (by omega) (by omega)]
    exact hR (i+1) (j - 1) _ h2 (by omega) p2 S2
include hn hb in
theorem pe_L4 {R:OA→Nat→Nat→Int→Int→Int→Heap→Prop} (hK:PeQ K L s n a b f0 v) {i m:Nat} (hR:∀ (i' j':Nat) g h',j'+1 - i'<m→PeI a b f0 v i' j' g→St (Ow 1 s (rw n g)::L) h'→R s.1 s.2.1 s.2.2 a i' j' h') :
    ∀ (fuel j:Nat) (f:Nat→(List UInt8)) (h:Heap),j+1 - i<fuel→j+1 - i≤m→PeI a b f0 v i j f→(i≤j→o.lt (f a) (f i)=true)→St (Ow 1 s (rw n f)::L) h→qaf.L4 K R fuel s.1 s.2.1 s.2.2 a i j h
  | 0,_,_,_,hf,_,_,_,_=>absurd hf (Nat.not_lt_zero _)
  | fuel+1,j,f,h,hf,hm,p,e1,S=>by
    unfold qaf.L4
    unfold qaf.j5
    have:=p.hi
    have:=p.hj
    have:=p.hij
    have fin:(i≤j→o.lt (f a) (f j)=false)→qaf.j3 K R s.1 s.2.1 s.2.2 a i j h:=fun e2=>pe_j3 hn hb hK (fun i' j' g h' hlt=>hR i' j' g h' (by omega)) p e1 e2 S
    by_cases hij:i≤j
    · refine ifT (by simp; omega) (less2T (i:=a) (j:=j) S rfl rfl (by omega) (by omega) ?_)
      cases hl:o.lt (f a) (f j) with
      | false=>exact ifF rfl (fin fun _=>hl)
      | true =>
        refine ifT rfl ?_
        simp only [bd]
        rw [wm1 (n:=n) hn (by omega) (by omega)]
        exact pe_L4 hK hR fuel (j - 1) f h (by omega) (by omega) (p.down hij) (fun hle=>e1 hij) S
    · exact ifF (by simp; omega) (ifF rfl (fin fun e=>absurd e hij))
include hn hb in
theorem pe_L6 {R:OA→Nat→Nat→Int→Int→Int→Heap→Prop} (hK:PeQ K L s n a b f0 v) {j m:Nat} (hR:∀ (i' j':Nat) g h',j'+1 - i'<m→PeI a b f0 v i' j' g→St (Ow 1 s (rw n g)::L) h'→R s.1 s.2.1 s.2.2 a i' j' h') :
    ∀ (fuel i:Nat) (f:Nat→(List UInt8)) (h:Heap),j+1 - i<fuel→j+1 - i≤m→PeI a b f0 v i j f→St (Ow 1 s (rw n f)::L) h→qaf.L6 K R fuel s.1 s.2.1 s.2.2 a i j h
  | 0,_,_,_,hf,_,_,_=>absurd hf (Nat.not_lt_zero _)
  | fuel+1,i,f,h,hf,hm,p,S=>by
    unfold qaf.L6
    unfold qaf.j7
    have:=p.hi
    have:=p.hj
    have:=p.hij
    have fin:(i≤j→o.lt (f a) (f i)=true)→qaf.j2 K R s.1 s.2.1 s.2.2 a i j h:=fun e1=>by
      unfold qaf.j2
      exact ⟨_,pe_L4 hn hb hK hR _ j f h (Nat.lt_succ_self _) hm p e1 S⟩
    by_cases hij:i≤j
    · refine ifT (by simp; omega) (less2T (i:=a) (j:=i) S rfl rfl (by omega) (by omega) ?_)
      cases hl:o.lt (f a) (f i) with
      | true=>exact ifF rfl (fin fun _=>hl)
      | false =>
        refine ifT rfl ?_
        simp only [bd]
        rw [wp1 (n:=n) hn (by omega)]
        exact pe_L6 hK hR fuel (i+1) f h (by omega) (by omega) (p.up hij hl) S
    · exact ifF (by simp; omega) (ifF rfl (fin fun e=>absurd e hij))
include hn hb in
theorem pe_L1 (hK:PeQ K L s n a b f0 v):∀ (fuel i j:Nat) (f:Nat→(List UInt8)) (h:Heap),j+1 - i<fuel→PeI a b f0 v i j f→St (Ow 1 s (rw n f)::L) h→qaf.L1 K fuel s.1 s.2.1 s.2.2 a i j h
  | 0,_,_,_,_,hf,_,_=>absurd hf (Nat.not_lt_zero _)
  | fuel+1,i,j,f,h,hf,p,S=>by
    unfold qaf.L1
    exact ⟨_,pe_L6 hn hb hK (m:=j+1 - i) (fun i' j' g h' hlt p' S'=>pe_L1 hK fuel i' j' g h' (by omega) p' S') _ i f h (Nat.lt_succ_self _) (Nat.le_refl _) p S⟩
include hn hb in
theorem pequS {c:Nat}{h:Heap} (S:St (Ow 1 s (rw n f0)::L) h) (hc:a≤c∧c<b) (hK:PeQ K L s n a b f0 (f0 c)) :
    CallsH P F.qaf [.slice s.1 s.2.1 s.2.2,.int .i64 a,.int .i64 b,.int .i64 c] K h:=by
  refine qaf.ok ?_
  unfold qaf.p0
  refine swapT (i:=c) (j:=a) S rfl rfl (by omega) (by omega) fun h2 S2=>?_
  simp only [bd]
  rw [wp1 (n:=n) hn (by omega),wm1 (n:=n) hn (by omega) (by omega)]
  have ea:swp f0 a c a=f0 c:=by unfold swp; rw [if_pos rfl]
  exact ⟨_,pe_L1 hn hb hK _ (a+1) (b - 1) _ h2 (Nat.lt_succ_self _) ⟨by omega,by omega,by omega,swp_pm f0 ⟨by omega,by omega⟩ ⟨by omega,by omega⟩,ea,fun k h1 h2=>by
    rw [show k=a by omega,ea]; exact o.le_refl _⟩ S2⟩
end
section
variable {s:SV}{n a b:Nat}{f0:Nat→(List UInt8)}
variable (hn:n<2305843009213693952) (hab:a+12<b∧b≤n)
include hn hab in
theorem brk_loop (hK:∀ h' g,Pm a b f0 g→St (Ow 1 s (rw n g)::L) h'→K (.tuple #[]) h') {c:Addr}{M:Nat} (hM:1≤M∧M≤2 * (b - a)) :
    ∀ (fuel i:Nat) (f:Nat→(List UInt8)) (h:Heap) (x:Int),a+(b - a) / 4 * 2+2 - i<fuel→a≤i→Pm a b f0 f→St (Ow 1 s (rw n f)::Bx c [.int .u64 x]::L) h→qax.L1 K fuel s.1 s.2.1 s.2.2 a ((b - a:Nat):Int) c M i h
  | 0,_,_,_,_,hf,_,_,_=>absurd hf (Nat.not_lt_zero _)
  | fuel+1,i,f,h,x,hf,ha,pm,S=>by
    unfold qax.L1
    have eq4:IntKind.i64.wrap (Int.tdiv ((b - a:Nat):Int) 4)=(((b - a) / 4:Nat):Int):=by
      rw [show Int.tdiv ((b - a:Nat):Int) 4=(((b - a) / 4:Nat):Int) from rfl,wrapI (by omega) (by omega)]
    rw [eq4,show IntKind.i64.wrap ((IntKind.i64.wrap ((a:Int)+(IntKind.i64.wrap ((((b - a) / 4:Nat):Int) * 2))))+1)=((a+(b - a) / 4 * 2+1:Nat):Int) by
      rw [wrapI (n:=(((b - a) / 4:Nat):Int) * 2) (by omega) (by omega),wrapI (n:=(a:Int)+(((b - a) / 4:Nat):Int) * 2) (by omega) (by omega),wrapI (by omega) (by omega)]; omega]
    refine ⟨by decide,?_⟩
    by_cases hle:i≤a+(b - a) / 4 * 2+1
    · refine ifT (by simp; omega) (xorS S.p1 fun h1 y S1=>⟨y,rfl,?_⟩)
      rw [show IntKind.u64.wrap ((M:Int) - 1)=((M - 1:Nat):Int) by rw [IntKind.wrap_u64]; omega]
      obtain ⟨k,ek,hk⟩:=and_le y (M - 1) (by omega)
      rw [ek]
      simp only [bd]
      rw [wrapI (n:=(k:Int)) (by omega) (by omega)]
      have j2:∀ q:Nat,q<b - a→qax.j2 K (qax.L1 K fuel) s.1 s.2.1 s.2.2 a ((b - a:Nat):Int) c M i q h1:=by
        intro q hq
        unfold qax.j2
        rw [show IntKind.i64.wrap ((a:Int)+(q:Int))=((a+q:Nat):Int) by rw [wrapI (by omega) (by omega)]; omega]
        refine swapT (i:=a+q) (j:=i) S1.p1 rfl rfl (by omega) (by omega) fun h2 S2=>?_
        simp only [bd]
        rw [wp1 (n:=n) (by omega) (by omega)]
        exact brk_loop hK hM fuel (i+1) _ h2 _ (by omega) (by omega) (pm.trans (swp_pm f ⟨by omega,by omega⟩ ⟨by omega,by omega⟩)) S2
      by_cases hge:b - a≤k
      · refine ifT (by simp; omega) ?_
        rw [show IntKind.i64.wrap ((k:Int) - ((b - a:Nat):Int))=((k - (b - a):Nat):Int) by rw [wrapI (by omega) (by omega)]; omega]
        exact j2 _ (by omega)
      · exact ifF (by simp; omega) (j2 k (by omega))
    · exact ifF (by simp; omega) (hK h f pm S.p1.tl)
include hn hab in
theorem brkS {h:Heap} (S:St (Ow 1 s (rw n f0)::L) h) (hK:∀ h' g,Pm a b f0 g→St (Ow 1 s (rw n g)::L) h'→K (.tuple #[]) h') :
    CallsH P F.qax [.slice s.1 s.2.1 s.2.2,.int .i64 a,.int .i64 b] K h:=by
  refine qax.ok ?_
  unfold qax.p0
  simp only [bd]
  rw [show IntKind.i64.wrap ((b:Int) - (a:Int))=((b - a:Nat):Int) by rw [wrapI (by omega) (by omega)]; omega]
  refine ifT (by simp; omega) ?_
  have S0:St (Bx (top h) [.int .u64 0]::Ow 1 s (rw n f0)::L) (al h #[.int .u64 0] T.slices_xorshift):=S.al [.int .u64 0] T.slices_xorshift
  refine S0.wr 0 (by simp) rfl fun h3 S3=>?_
  refine pow2S (by omega) (by omega) fun m m1 m2=>⟨_,rfl,by decide,?_⟩
  have eq4:IntKind.i64.wrap (Int.tdiv ((b - a:Nat):Int) 4)=(((b - a) / 4:Nat):Int):=by
    rw [show Int.tdiv ((b - a:Nat):Int) 4=(((b - a) / 4:Nat):Int) from rfl,wrapI (by omega) (by omega)]
  rw [eq4,show IntKind.i64.wrap ((IntKind.i64.wrap ((a:Int)+(IntKind.i64.wrap ((((b - a) / 4:Nat):Int) * 2)))) - 1)=((a+(b - a) / 4 * 2 - 1:Nat):Int) by
      rw [wrapI (n:=(((b - a) / 4:Nat):Int) * 2) (by omega) (by omega),wrapI (n:=(a:Int)+(((b - a) / 4:Nat):Int) * 2) (by omega) (by omega),wrapI (by omega) (by omega)]; omega]
  exact ⟨_,brk_loop hn hab hK ⟨by omega,m2⟩ _ _ f0 h3 _ (Nat.lt_succ_self _) (by omega) (Pm.refl _ _ _) S3.p1⟩
end
def PdqS (s:SV) (n N:Nat):Prop:=∀ (a b:Nat) (f:Nat→(List UInt8)) (x:Int) (h:Heap) (K:KT) (L:List Asr),b - a<N→a≤b→b≤n→(0<a→∀ k,a≤k→k<b→o.le (f (a - 1)) (f k)) →
  St (Ow 1 s (rw n f)::L) h→(∀ h' g,Pm a b f g→o.Srt a b g→St (Ow 1 s (rw n g)::L) h'→K (.tuple #[]) h')→CallsH P F.qai [.slice s.1 s.2.1 s.2.2,.int .i64 a,.int .i64 b,.int .i64 x] K h
section
variable {s:SV}{n a0 b0:Nat}{f0:Nat→(List UInt8)}
variable (hn:n<2305843009213693952) (hb0:b0≤n) (hrec:PdqS s n (b0 - a0)) (hK:∀ h' g,Pm a0 b0 f0 g→o.Srt a0 b0 g→St (Ow 1 s (rw n g)::L) h'→K (.tuple #[]) h')
include hn hb0 hrec in
theorem pdq_j5 {R:OA→Nat→Nat→Int→Int→Int→Bool→Bool→Heap→Prop}{a b c:Nat}{f:Nat→(List UInt8)}{h:Heap}{x:Int}{t8 t9 q:Bool}
    (hR:∀ (a' b':Nat) (x:Int) (u v:Bool) g h',b' - a'<b - a→a'≤b'→PdqI o a0 b0 f0 a' b' g→St (Ow 1 s (rw n g)::L) h'→R s.1 s.2.1 s.2.2 a' b' x u v h')
    (I:PdqI o a0 b0 f0 a b f) (hab:a+12<b) (hc:a≤c∧c<b) (hq:q=true→0<a∧o.le (f c) (f (a - 1))) (S:St (Ow 1 s (rw n f)::L) h):qai.j5 K R s.1 s.2.1 s.2.2 a b x t8 t9 ((b - a:Nat):Int) c q h:=by
  unfold qai.j5
  have:=I.ha
  have:=I.hb
  cases hqq:q with
  | true =>
    obtain ⟨h0,hv⟩:=hq hqq
    refine ifT rfl (pequS (a:=a) (b:=b) (by omega) (by omega) S hc fun h' g m pg hm l1 Sg=>⟨_,rfl,?_⟩)
    refine hR m b x t8 t9 g h' (by omega) (by omega) ((I.move pg).equal h0 hm ?_ l1) Sg
    rw [pg.out (k:=a - 1) (.inl (by omega))]
    exact hv
  | false =>
    refine ifF rfl (partS (a:=a) (b:=b) (by omega) (by omega) S hc fun h' g m d pg hm l1 l2 Sg=>⟨_,_,rfl,?_⟩)
    simp only [bd]
    rw [wp1 (n:=n) (by omega) (by omega)]
    refine ⟨by decide,?_⟩
    have I2:=I.move pg
    cases decide (IntKind.i64.wrap ((m:Int) - (a:Int))<IntKind.i64.wrap ((b:Int) - (m:Int))) with
    | true =>
      refine ifT rfl (hrec a m g x h' _ L (by omega) (by omega) (by omega) (fun h0 k k1 k2=>I2.low h0 k k1 (by omega)) Sg fun h2 e pe se Se=>⟨rfl,?_⟩)
      exact hR (m+1) b x _ d e h2 (by omega) (by omega) (I2.right hm l1 l2 pe se) Se
    | false =>
      refine ifF rfl (hrec (m+1) b g x h' _ L (by omega) (by omega) (by omega) (fun h0 k k1 k2=>l2 k (by omega) k2) Sg fun h2 e pe se Se=>⟨rfl,?_⟩)
      exact hR a m x _ d e h2 (by omega) (by omega) (I2.left hm l1 l2 pe se) Se
include hn hb0 hrec hK in
theorem pdq_j6 {R:OA→Nat→Nat→Int→Int→Int→Bool→Bool→Heap→Prop}{a b c:Nat}{f:Nat→(List UInt8)}{h:Heap}{x:Int}{t8 t9 q:Bool}
    (hR:∀ (a' b':Nat) (x:Int) (u v:Bool) g h',b' - a'<b - a→a'≤b'→PdqI o a0 b0 f0 a' b' g→St (Ow 1 s (rw n g)::L) h'→R s.1 s.2.1 s.2.2 a' b' x u v h')
    (I:PdqI o a0 b0 f0 a b f) (hab:a+12<b) (hc:a≤c∧c<b) (S:St (Ow 1 s (rw n f)::L) h):qai.j6 K R s.1 s.2.1 s.2.2 a b x t8 t9 ((b - a:Nat):Int) c q h:=by
  have:=I.ha
  have:=I.hb
  have j4:∀ (g:Nat→(List UInt8)) (h':Heap),PdqI o a0 b0 f0 a b g→St (Ow 1 s (rw n g)::L) h'→qai.j4 K R s.1 s.2.1 s.2.2 a b x t8 t9 ((b - a:Nat):Int) c h':=by
    intro g h' I2 S2
    unfold qai.j4
    by_cases h0:0<a
    · rw [wm1 (n:=n) (by omega) (by omega) (by omega)]
      refine ifT (by simp; omega) (less2T (i:=a - 1) (j:=c) S2 rfl rfl (by omega) (by omega) ?_)
      exact pdq_j5 hn hb0 hrec hR I2 hab hc (fun e=>⟨h0,(by simpa using e:o.lt (g (a - 1)) (g c)=false)⟩) S2
    · exact ifF (by simp; omega) (pdq_j5 hn hb0 hrec hR I2 hab hc (fun e=>by cases e) S2)
  unfold qai.j6
  cases q with
  | false=>exact ifF rfl (j4 f h I S)
  | true =>
    refine ifT rfl (pinS (a:=a) (b:=b) (by omega) ⟨by omega,by omega⟩ I.low S (fun h' g pg Sg=>⟨_,rfl,ifF rfl (j4 g h' (I.move pg) Sg)⟩) fun h' g pg sg Sg=>⟨_,rfl,ifT rfl (hK h' g (I.move pg).pm (I.fin g pg sg) Sg)⟩)
include hn hb0 hrec hK in
theorem pdq_loop:∀ (fuel a b:Nat) (f:Nat→(List UInt8)) (h:Heap) (x:Int) (t8 t9:Bool),b - a<fuel→a≤b→PdqI o a0 b0 f0 a b f→St (Ow 1 s (rw n f)::L) h→qai.L1 K fuel s.1 s.2.1 s.2.2 a b x t8 t9 h
  | 0,_,_,_,_,_,_,_,hf,_,_,_=>absurd hf (Nat.not_lt_zero _)
  | fuel+1,a,b,f,h,x,t8,t9,hf,hab,I,S=>by
    unfold qai.L1
    have:=I.ha
    have:=I.hb
    simp only [bd]
    rw [show IntKind.i64.wrap ((b:Int) - (a:Int))=((b - a:Nat):Int) by rw [wrapI (by omega) (by omega)]; omega]
    by_cases h12:b - a≤12
    · exact ifT (by simp; omega) (insS (a:=a) (b:=b) S (by omega) (by omega) (by omega) fun h' g pg sg Sg=>⟨rfl,hK h' g (I.move pg).pm (I.fin g pg sg) Sg⟩)
    refine ifF (by simp; omega) ?_
    have j2:∀ (x:Int) (g:Nat→(List UInt8)) (h':Heap),PdqI o a0 b0 f0 a b g→St (Ow 1 s (rw n g)::L) h'→qai.j2 K (qai.L1 K fuel) s.1 s.2.1 s.2.2 a b x t8 t9 ((b - a:Nat):Int) h':=by
      intro x g h' I2 S2
      have j3:∀ (c:Nat) (y:Int) (e:Nat→(List UInt8)) (h2:Heap),a≤c→c<b→PdqI o a0 b0 f0 a b e→St (Ow 1 s (rw n e)::L) h2→qai.j3 K (qai.L1 K fuel) s.1 s.2.1 s.2.2 a b x t8 t9 ((b - a:Nat):Int) c y h2:=by
        intro c y e h2 c1 c2 I3 S3
        unfold qai.j3
        have j6:=fun q:Bool=>pdq_j6 (K:=K) (L:=L) (R:=qai.L1 K fuel) (x:=x) (t8:=t8) (t9:=t9) (q:=q) hn hb0 hrec hK (fun a' b' x u v g h' hlt hle I' S'=>pdq_loop fuel a' b' g h' x u v (by omega) hle I' S') I3 (by omega) ⟨c1,c2⟩ S3
        exact ⟨fun _=>⟨fun _=>j6 _,fun _=>j6 _⟩,fun _=>j6 _⟩
      unfold qai.j2
      refine pivotS (a:=a) (b:=b) S2 (by omega) (by omega) (by omega) fun h3 i y i1 i2 S3=>⟨_,_,rfl,?_⟩
      refine ⟨fun _=>revS (a:=a) (b:=b) S3 (by omega) (by omega) (by omega) fun h4 e pe Se=>⟨rfl,?_⟩,fun _=>j3 i y g h3 i1 i2 I2 S3⟩
      simp only [bd]
      rw [wm1 (n:=n) (by omega) (by omega) (by omega),show IntKind.i64.wrap ((i:Int) - (a:Int))=((i - a:Nat):Int) by rw [wrapI (by omega) (by omega)]; omega,show IntKind.i64.wrap (((b - 1:Nat):Int) - ((i - a:Nat):Int))=((b - 1 - (i - a):Nat):Int) by rw [wrapI (by omega) (by omega)]; omega]
      exact j3 _ 1 e h4 (by omega) (by omega) (I2.move pe) Se
    refine ⟨fun _=>heapS (a:=a) (b:=b) S (by omega) (by omega) (by omega) fun h' g pg sg Sg=>⟨rfl,hK h' g (I.move pg).pm (I.fin g pg sg) Sg⟩,fun _=>?_⟩
    cases t8 with
    | true=>exact ifF rfl (j2 x f h I S)
    | false=>exact ifT rfl (brkS (a:=a) (b:=b) (by omega) ⟨by omega,by omega⟩ S fun h' g pg Sg=>⟨rfl,j2 _ g h' (I.move pg) Sg⟩)
end
theorem pdqS {s:SV}{n:Nat} (hn:n<2305843009213693952):∀ N,PdqS s n N
  | 0=>fun a b f x h K L hl=>absurd hl (Nat.not_lt_zero _)
  | N+1=>by
    intro a b f x h K L hl hab hb low S hK
    refine qai.ok ?_
    unfold qai.p0
    have hrec:PdqS s n (b - a):=fun a' b' f' x' h' K' L' hl'=>pdqS hn N a' b' f' x' h' K' L' (by omega)
    exact ⟨_,pdq_loop hn hb hrec hK _ a b f h x true true (Nat.lt_succ_self _) hab (PdqI.start low) S⟩
theorem sortS {s:SV}{xs:List (List UInt8)} (S:St (Ow 1 s (xs.map fun x=>.string (mkS x))::L) h) (hn:xs.length<2305843009213693952) (d:(List UInt8))
    (hK:∀ h' (ys:List (List UInt8)),ys.Perm xs→ys.Pairwise o.le→St (Ow 1 s (ys.map fun x=>.string (mkS x))::L) h'→K (.tuple #[]) h') :
    CallsH P F.qco [.slice s.1 s.2.1 s.2.2] K h:=by
  refine qco.ok ?_
  unfold qco.p0
  have em:∀ f:Nat→(List UInt8),rw xs.length f=(rowF xs.length f).map fun x=>.string (mkS x):=fun f=>by unfold rw rowF; rw [List.map_map]; rfl
  have S0:St (Ow 1 s (rw xs.length fun i=>xs.getD i d)::L) h:=by rw [em,rowF_of]; exact S
  have el:s.2.1=xs.length:=rlen S0
  obtain ⟨p,l,c⟩:=s
  subst el
  simp only [bd]
  rw [show IntKind.u64.wrap ((xs.length:Nat):Int)=((xs.length:Nat):Int) by rw [IntKind.wrap_u64]; omega]
  refine lenS (by omega) ⟨_,rfl,?_⟩
  refine pdqS (s:=(p,xs.length,c)) hn _ 0 xs.length _ _ h _ L (Nat.lt_succ_self _) (Nat.zero_le _) (Nat.le_refl _) (fun h0=>by omega) S0 fun h' g pg sg Sg=>⟨rfl,?_⟩
  refine hK h' (rowF xs.length g) ?_ (o.srt_row sg) (by rw [← em]; exact Sg)
  have:=pg.perm
  rwa [rowF_of] at this
end
end Go.Proofs.YtofpbcakppjgcaaGreatDoor.Pr.sort_string
end
section
set_option linter.unusedVariables false
set_option linter.unusedSimpArgs false
set_option linter.unusedSectionVars false
namespace Go.Proofs.YtofpbcakppjgcaaGreatDoor.Pr.sort_uint64
open Go Go.Lift Go.Proofs
def o:Lift.Ord Int where
  lt:=fun x y=>decide (x<y)
  asym:=fun x y h=>by simp at *; omega
  trans:=fun x y z h k=>by simp at *; omega
theorem le_anti (x y:Int) (h:o.le x y) (k:o.le y x):x=y:=by simp [Lift.Ord.le,o] at h k; omega
abbrev rw (n:Nat) (f:Nat→Int):List Value:=rowF n (fun i=>.int .u64 (f i))
theorem rw_get {n i:Nat} (f:Nat→Int) (h:i<n):(rw n f)[i]? = some (.int .u64 (f i)):=rowF_get _ h
theorem rw_len (n:Nat) (f:Nat→Int):(rw n f).length=n:=rowF_len _ _
theorem rw_swap {n i j:Nat} (f:Nat→Int) (hi:i<n) (hj:j<n):((rw n f).set i (.int .u64 (f j))).set j (.int .u64 (f i))=rw n (swp f i j):=by
  apply List.ext_getElem?
  intro k
  by_cases hk:k<n
  · rw [rw_get _ hk,List.getElem?_set,List.getElem?_set,List.length_set,rw_len,rw_get _ hk]
    by_cases h1:j=k
    · subst h1
      rw [if_pos rfl,if_pos hj]
      by_cases h2:j=i
      · subst h2; simp [swp]
      · simp [swp,h2]
    · rw [if_neg h1]
      by_cases h2:i=k
      · subst h2
        rw [if_pos rfl,if_pos hi]
        simp [swp]
      · rw [if_neg h2]
        have h3:¬ k=i:=fun e=>h2 e.symm
        have h4:¬ k=j:=fun e=>h1 e.symm
        simp [swp,h3,h4]
  · rw [List.getElem?_eq_none (by simp [rw_len]; omega),List.getElem?_eq_none (by rw [rw_len]; omega)]
section
variable {K:KT}{L:List Asr}{h:Heap}
theorem lessS {x y:Int} (hK:K (.bool (o.lt x y)) h):CallsH P F.qdm [.int .u64 x,.int .u64 y] K h:=by
  refine qdm.ok ?_
  unfold qdm.p0
  refine qdi.ok ?_
  unfold qdi.p0
  refine ⟨_,rfl,?_⟩
  exact ⟨fun e=>absurd e (by simp),fun _=>hK⟩
theorem rlen {s:SV}{n:Nat}{f:Nat→Int} (S:St (Ow 1 s (rw n f)::L) h):s.2.1=n:=by
  have:=S.ow.1
  rw [rw_len] at this
  omega
theorem less2T {s:SV}{n:Nat}{f:Nat→Int}{x y:Int}{i j:Nat}{R:Bool→Heap→Prop} (S:St (Ow 1 s (rw n f)::L) h) (hx:x=i) (hy:y=j) (hi:i<n) (hj:j<n) (hR:R (o.lt (f i) (f j)) h) :
    ∃ p,s.1=some p∧(0:Int)≤x∧x<((s.2.1:Nat):Int)∧∃ q,s.1=some q∧(0:Int)≤y∧y<((s.2.1:Nat):Int)∧∃ u,hcell h (Addr.add p (Int.toNat x * 1))=some (.int .u64 u)∧∃ v,hcell h (Addr.add q (Int.toNat y * 1))=some (.int .u64 v) ∧
      CallsH P F.qdm [.int .u64 u,.int .u64 v] (fun v h'=>∃ b,v=.bool b∧R b h') h :=
  ixV S.sl hx (rw_get f hi) fun p ep cp=>ixV S.sl hy (rw_get f hj) fun q eq cq=>⟨_,cp,_,cq,lessS ⟨_,rfl,hR⟩⟩
theorem swapT {s:SV}{n:Nat}{f:Nat→Int}{x y:Int}{i j:Nat}{Q:Heap→Prop} (S:St (Ow 1 s (rw n f)::L) h) (hx:x=i) (hy:y=j) (hi:i<n) (hj:j<n) (hQ:∀ h',St (Ow 1 s (rw n (swp f j i))::L) h'→Q h') :
    ∃ p,s.1=some p∧(0:Int)≤x∧x<((s.2.1:Nat):Int)∧∃ q,s.1=some q∧(0:Int)≤y∧y<((s.2.1:Nat):Int)∧∃ u,hcell h (Addr.add p (Int.toNat x * 1))=some (.int .u64 u)∧∃ v,hcell h (Addr.add q (Int.toNat y * 1))=some (.int .u64 v) ∧
      ∃ p',s.1=some p'∧(0:Int)≤y∧y<((s.2.1:Nat):Int)∧∃ h1,stC h (Addr.add p' (Int.toNat y * 1)) 0 [.int .u64 u]=some h1∧∃ q',s.1=some q'∧(0:Int)≤x∧x<((s.2.1:Nat):Int)∧∃ h2,stC h1 (Addr.add q' (Int.toNat x * 1)) 0 [.int .u64 v]=some h2∧Q h2 :=
  ixV S.sl hx (rw_get f hi) fun p ep cp=>ixV S.sl hy (rw_get f hj) fun q eq cq=>⟨_,cp,_,cq,S.owSet hy (by rw [rw_len]; exact hj) rfl fun h1 S1=>S1.owSet hx (by rw [List.length_set,rw_len]; exact hi) rfl fun h2 S2=>hQ h2 (by rw [rw_swap f hj hi] at S2; exact S2)⟩
theorem ins_inner {s:SV}{n a b i:Nat}{f0:Nat→Int}{R1:OA→Nat→Nat→Int→Int→Int→Heap→Prop} (hn:n<4611686018427387904) (hab:a<i∧i<b∧b≤n)
    (hQ:∀ h' f,Pm a b f0 f→o.Srt a (i+1) f→St (Ow 1 s (rw n f)::L) h'→qao.j2 K R1 s.1 s.2.1 s.2.2 a b i h') :
    ∀ (fuel j:Nat) (f:Nat→Int) (h:Heap),j<fuel→a≤j→j≤i→Pm a b f0 f→InsI o a i j f→St (Ow 1 s (rw n f)::L) h→qao.L3 K R1 fuel s.1 s.2.1 s.2.2 a b i j h
  | 0,_,_,_,hf,_,_,_,_,_=>absurd hf (Nat.not_lt_zero _)
  | fuel+1,j,f,h,hf,ha,hj,pm,iv,S=>by
    unfold qao.L3
    have stop:(a<j→o.lt (f j) (f (j - 1))=false)→qao.j4 K R1 (qao.L3 K R1 fuel) s.1 s.2.1 s.2.2 a b i j false h:=by
      intro e
      unfold qao.j4
      exact ifF rfl (hQ h f pm (iv.done hj e) S)
    by_cases hgt:j > a
    · have ew:IntKind.i64.wrap ((j:Int) - 1)=((j - 1:Nat):Int):=by rw [wrapI (by omega) (by omega)]; omega
      rw [ew]
      refine ifT (by simp; omega) (less2T (i:=j) (j:=j - 1) S rfl rfl (by omega) (by omega) ?_)
      cases hl:o.lt (f j) (f (j - 1)) with
      | false=>exact stop (fun _=>hl)
      | true =>
        unfold qao.j4
        rw [ew]
        refine ifT rfl (swapT (i:=j - 1) (j:=j) S rfl rfl (by omega) (by omega) fun h2 S2=>?_)
        simp only [bd]
        exact ins_inner hn hab hQ fuel (j - 1) _ h2 (by omega) (by omega) (by omega) (pm.trans (swp_pm f ⟨by omega,by omega⟩ ⟨by omega,by omega⟩)) (iv.swap hgt hj hl) S2
    · exact ifF (by simp; omega) (stop (fun e=>absurd e hgt))
theorem ins_outer {s:SV}{n a b:Nat}{f0:Nat→Int} (hn:n<4611686018427387904) (hb:b≤n) (hK:∀ h' f,Pm a b f0 f→o.Srt a b f→St (Ow 1 s (rw n f)::L) h'→K (.tuple #[]) h') :
    ∀ (fuel i:Nat) (f:Nat→Int) (h:Heap),b - i<fuel→a<i→Pm a b f0 f→o.Srt a i f→St (Ow 1 s (rw n f)::L) h→qao.L1 K fuel s.1 s.2.1 s.2.2 a b i h
  | 0,_,_,_,hf,_,_,_,_=>absurd hf (Nat.not_lt_zero _)
  | fuel+1,i,f,h,hf,ha,pm,sr,S=>by
    unfold qao.L1
    by_cases hlt:i<b
    · refine ifT (by simp; omega) ⟨i+1,ins_inner hn ⟨ha,hlt,hb⟩ (fun h' g pg sg Sg=>?_) _ i f h (Nat.lt_succ_self _) (by omega) (Nat.le_refl _) pm (InsI.start sr) S⟩
      unfold qao.j2
      simp only [bd]
      rw [show IntKind.i64.wrap ((i:Int)+1)=((i+1:Nat):Int) by rw [wrapI (by omega) (by omega)]; omega]
      exact ins_outer hn hb hK fuel (i+1) g h' (by omega) (by omega) pg sg Sg
    · exact ifF (by simp; omega) (hK h f pm (fun p q hp hpq hq=>sr p q hp hpq (by omega)) S)
theorem insS {s:SV}{n a b:Nat}{f:Nat→Int} (S:St (Ow 1 s (rw n f)::L) h) (hn:n<4611686018427387904) (ha:a≤n) (hb:b≤n) (hK:∀ h' g,Pm a b f g→o.Srt a b g→St (Ow 1 s (rw n g)::L) h'→K (.tuple #[]) h') :
    CallsH P F.qao [.slice s.1 s.2.1 s.2.2,.int .i64 a,.int .i64 b] K h:=by
  refine qao.ok ?_
  unfold qao.p0
  simp only [bd]
  rw [show IntKind.i64.wrap ((a:Int)+1)=((a+1:Nat):Int) by rw [wrapI (by omega) (by omega)]; omega]
  exact ⟨_,ins_outer hn hb hK _ (a+1) f h (Nat.lt_succ_self _) (by omega) (Pm.refl _ _ _) (fun p q hp hpq hq=>by omega) S⟩
abbrev sh (first:Nat) (f:Nat→Int):Nat→Int:=fun k=>f (first+k)
theorem sh_swp (first r c:Nat) (f:Nat→Int):sh first (swp f (first+r) (first+c))=swp (sh first f) r c:=by
  funext k
  unfold sh swp
  by_cases h1:k=r
  · subst h1; simp
  · by_cases h2:k=c
    · subst h2; simp [h1]
    · rw [if_neg (by omega),if_neg (by omega),if_neg h1,if_neg h2]
theorem sift_loop {s:SV}{n lo hi first:Nat}{f0:Nat→Int} (hn:n<2305843009213693952) (hh:first+hi≤n∧lo≤n) (hK:∀ h' f,Pm (first+lo) (first+hi) f0 f→Heapy o lo hi (sh first f)→St (Ow 1 s (rw n f)::L) h'→K (.tuple #[]) h') :
    ∀ (fuel r:Nat) (f:Nat→Int) (h:Heap),hi - r<fuel→lo≤r→r≤n→Pm (first+lo) (first+hi) f0 f→HeapyBut o lo hi r (sh first f)→St (Ow 1 s (rw n f)::L) h→qav.L1 K fuel s.1 s.2.1 s.2.2 hi first r h
  | 0,_,_,_,hf,_,_,_,_,_=>absurd hf (Nat.not_lt_zero _)
  | fuel+1,r,f,h,hf,hr,hrn,pm,hb,S=>by
    unfold qav.L1
    simp only [bd]
    by_cases hbig:2 * r+1 ≥ hi
    · rw [show IntKind.i64.wrap ((IntKind.i64.wrap ((2:Int) * (r:Int)))+1)=((2 * r+1:Nat):Int) by rw [wrapI (n:=2 * (r:Int)) (by omega) (by omega),wrapI (by omega) (by omega)]; omega]
      exact ifT (by simp; omega) (hK h f pm (hb.done fun c hc hlt=>by omega) S)
    rw [show IntKind.i64.wrap ((IntKind.i64.wrap ((2:Int) * (r:Int)))+1)=((2 * r+1:Nat):Int) by rw [wrapI (n:=2 * (r:Int)) (by omega) (by omega),wrapI (by omega) (by omega)]; omega]
    refine ifF (by simp; omega) ?_
    have w1:∀ k:Nat,k<hi→IntKind.i64.wrap ((first:Int)+((k:Nat):Int))=((first+k:Nat):Int):=fun k hk=>by rw [wrapI (by omega) (by omega)]; omega
    have w2:IntKind.i64.wrap (((2 * r+1:Nat):Int)+1)=((2 * r+2:Nat):Int):=by rw [wrapI (by omega) (by omega)]; omega
    have j2:∀ c:Nat,(c=2 * r+1∨c=2 * r+2)→c<hi→(∀ d,(d=2 * r+1∨d=2 * r+2)→d<hi→o.le (sh first f d) (sh first f c))→qav.j2 K (qav.L1 K fuel) s.1 s.2.1 s.2.2 hi first r c h:=by
      intro c hc hlt hmax
      unfold qav.j2
      rw [w1 r (by omega),w1 c hlt]
      refine less2T (i:=first+r) (j:=first+c) S rfl rfl (by omega) (by omega) ?_
      cases hl:o.lt (f (first+r)) (f (first+c)) with
      | false=>exact ifT rfl (hK h f pm (hb.done fun d hd hdl=>o.le_trans (hmax d hd hdl) hl) S)
      | true =>
        refine ifF rfl (swapT (i:=first+c) (j:=first+r) S rfl rfl (by omega) (by omega) fun h2 S2=>?_)
        refine sift_loop hn hh hK fuel c _ h2 (by omega) (by omega) (by omega) (pm.trans (swp_pm f ⟨by omega,by omega⟩ ⟨by omega,by omega⟩)) ?_ S2
        rw [sh_swp]
        exact hb.step hr hc hlt (o.le_of_lt hl) hmax
    rw [w2]
    by_cases h2:2 * r+2<hi
    · rw [w1 _ (by omega),show IntKind.i64.wrap (((first+(2 * r+1):Nat):Int)+1)=((first+(2 * r+2):Nat):Int) by rw [wrapI (by omega) (by omega)]; omega]
      refine ifT (by simp; omega) (less2T (i:=first+(2 * r+1)) (j:=first+(2 * r+2)) S rfl rfl (by omega) (by omega) ?_)
      unfold qav.j3
      rw [w2]
      cases hl:o.lt (f (first+(2 * r+1))) (f (first+(2 * r+2))) with
      | true =>
        refine ifT rfl ?_
        simp only [bd]
        exact j2 (2 * r+2) (.inr rfl) h2 fun d hd hdl=>by
          rcases hd with rfl | rfl
          · exact o.le_of_lt hl
          · exact o.le_refl _
      | false =>
        exact ifF rfl (j2 (2 * r+1) (.inl rfl) (by omega) fun d hd hdl=>by
          rcases hd with rfl | rfl
          · exact o.le_refl _
          · exact hl)
    · refine ifF (by simp; omega) ?_
      unfold qav.j3
      exact ifF rfl (j2 (2 * r+1) (.inl rfl) (by omega) fun d hd hdl=>by
          rcases hd with rfl | rfl
          · exact o.le_refl _
          · omega)
theorem siftS {s:SV}{n lo hi first:Nat}{f:Nat→Int} (S:St (Ow 1 s (rw n f)::L) h) (hn:n<2305843009213693952) (hh:first+hi≤n∧lo≤n) (hb:HeapyBut o lo hi lo (sh first f))
    (hK:∀ h' g,Pm (first+lo) (first+hi) f g→Heapy o lo hi (sh first g)→St (Ow 1 s (rw n g)::L) h'→K (.tuple #[]) h'):CallsH P F.qav [.slice s.1 s.2.1 s.2.2,.int .i64 lo,.int .i64 hi,.int .i64 first] K h:=by
  refine qav.ok ?_
  unfold qav.p0
  exact ⟨_,sift_loop hn hh hK _ lo f h (Nat.lt_succ_self _) (Nat.le_refl _) hh.2 (Pm.refl _ _ _) hb S⟩
theorem heap_out {s:SV}{n hi first:Nat}{f0:Nat→Int} (hn:n<2305843009213693952) (hh:first+hi≤n) (hK:∀ h' f,Pm first (first+hi) f0 f→o.Srt 0 hi (sh first f)→St (Ow 1 s (rw n f)::L) h'→K (.tuple #[]) h') :
    ∀ (fuel c:Nat) (f:Nat→Int) (h:Heap) (x:Int),c<fuel→x=(c:Int) - 1→c≤hi→Pm first (first+hi) f0 f→Heapy o 0 c (sh first f)→o.Srt c hi (sh first f)→(∀ p q,p<c→c≤q→q<hi→o.le (sh first f p) (sh first f q))→St (Ow 1 s (rw n f)::L) h→qaz.L2 K fuel s.1 s.2.1 s.2.2 first 0 x h
  | 0,_,_,_,_,hf,_,_,_,_,_,_,_=>absurd hf (Nat.not_lt_zero _)
  | fuel+1,c,f,h,x,hf,hx,hc,pm,hp,sr,ab,S=>by
    unfold qaz.L2
    subst hx
    cases c with
    | zero=>exact ifF (by simp) (hK h f pm sr S)
    | succ c =>
      have e1:((c+1:Nat):Int) - 1=((c:Nat):Int):=by omega
      rw [e1]
      refine ifT (by simp) ?_
      have w1:IntKind.i64.wrap ((first:Int)+(c:Int))=((first+c:Nat):Int):=by rw [wrapI (by omega) (by omega)]; omega
      rw [w1]
      refine swapT (i:=first+c) (j:=first) S rfl rfl (by omega) (by omega) fun h2 S2=>?_
      have p2:Pm first (first+hi) f (swp f first (first+c)):=swp_pm f ⟨by omega,by omega⟩ ⟨by omega,by omega⟩
      have es:sh first (swp f first (first+c))=swp (sh first f) 0 c:=sh_swp first 0 c f
      have hbut:HeapyBut o 0 c 0 (sh first (swp f first (first+c))):=by
        rw [es]
        constructor
        · intro k d hk hne hd hdl
          unfold swp
          rw [if_neg (by omega),if_neg (by omega),if_neg (by omega),if_neg (by omega)]
          exact hp k d hk hd (by omega)
        · intro p d _ h0 _ _
          omega
      refine siftS (lo:=0) S2 hn ⟨by omega,by omega⟩ hbut fun h3 g pg hg Sg=>⟨rfl,?_⟩
      have pw:Pm first (first+hi) (swp f first (first+c)) g:=pg.wide (Nat.le_refl _) (by omega)
      have top:=hp.top
      have eq:∀ k,c≤k→sh first g k=swp (sh first f) 0 c k:=fun k hk=>by
        rw [← es]
        exact pg.out (.inr (by omega))
      have inn:∀ k,k<c→∃ j,j<c∧sh first g k=swp (sh first f) 0 c j:=fun k hk=>by
        obtain ⟨j,j1,j2,j3⟩:=pg.inn (k:=first+k) ⟨by omega,by omega⟩
        refine ⟨j - first,by omega,?_⟩
        rw [← es]
        show g (first+k)=swp f first (first+c) (first+(j - first))
        rw [j3,show first+(j - first)=j by omega]
      have low:∀ j,j<c→∃ i,i<c+1∧swp (sh first f) 0 c j=sh first f i:=fun j hj=>by
        unfold swp
        by_cases h0:j=0
        · rw [if_pos h0]; exact ⟨c,by omega,rfl⟩
        · rw [if_neg h0,if_neg (by omega)]; exact ⟨j,by omega,rfl⟩
      have at':swp (sh first f) 0 c c=sh first f 0:=by
        unfold swp
        by_cases h0:c=0
        · subst h0; rw [if_pos rfl]
        · rw [if_neg h0,if_pos rfl]
      have hig:∀ q,c<q→swp (sh first f) 0 c q=sh first f q:=fun q hq=>by
        unfold swp
        rw [if_neg (by omega),if_neg (by omega)]
      simp only [bd]
      rw [show IntKind.i64.wrap ((c:Int) - 1)=(c:Int) - 1 by rw [wrapI (by omega) (by omega)]]
      refine heap_out hn hh hK fuel c g h3 _ (by omega) rfl (by omega) (pm.trans (p2.trans pw)) hg ?_ ?_ Sg
      · intro x y hx hxy hy
        rw [eq x hx,eq y (by omega),hig y (by omega)]
        by_cases hxc:x=c
        · subst hxc; rw [at']; exact ab 0 y (by omega) (by omega) hy
        · rw [hig x (by omega)]; exact sr x y (by omega) hxy hy
      · intro p q hp' hq hqh
        obtain ⟨j,j1,j2⟩:=inn p hp'
        obtain ⟨i,i1,i2⟩:=low j j1
        rw [j2,i2,eq q hq]
        by_cases hqc:q=c
        · subst hqc; rw [at']; exact top i i1
        · rw [hig q (by omega)]; exact ab i q i1 (by omega) hqh
theorem heap_in {s:SV}{n hi first:Nat}{f0:Nat→Int} (hn:n<2305843009213693952) (hh:first+hi≤n) (hi1:1≤hi) (hK:∀ h' f,Pm first (first+hi) f0 f→o.Srt 0 hi (sh first f)→St (Ow 1 s (rw n f)::L) h'→K (.tuple #[]) h') :
    ∀ (fuel m:Nat) (f:Nat→Int) (h:Heap) (x:Int),m<fuel→x=(m:Int) - 1→m≤hi→Pm first (first+hi) f0 f→Heapy o m hi (sh first f)→St (Ow 1 s (rw n f)::L) h→qaz.L3 K fuel s.1 s.2.1 s.2.2 first 0 hi x h
  | 0,_,_,_,_,hf,_,_,_,_,_=>absurd hf (Nat.not_lt_zero _)
  | fuel+1,m,f,h,x,hf,hx,hc,pm,hp,S=>by
    unfold qaz.L3
    subst hx
    cases m with
    | zero =>
      refine ifF (by simp) ?_
      unfold qaz.j1
      simp only [bd]
      rw [show IntKind.i64.wrap ((hi:Int) - 1)=(hi:Int) - 1 by rw [wrapI (by omega) (by omega)]]
      exact ⟨_,heap_out hn hh hK _ hi f h _ (Nat.lt_succ_self _) rfl (Nat.le_refl _) pm hp (fun x y h1 h2 h3=>by omega) (fun p q h1 h2 h3=>by omega) S⟩
    | succ m =>
      have e1:((m+1:Nat):Int) - 1=((m:Nat):Int):=by omega
      rw [e1]
      refine ifT (by simp) (siftS (lo:=m) S hn ⟨by omega,by omega⟩ ⟨?_,?_⟩ fun h3 g pg hg Sg=>⟨rfl,?_⟩)
      · intro k c hk hne hcc hl
        exact hp k c (by omega) hcc hl
      · intro p c hp' hr _ _
        omega
      · simp only [bd]
        rw [show IntKind.i64.wrap ((m:Int) - 1)=(m:Int) - 1 by rw [wrapI (by omega) (by omega)]]
        exact heap_in hn hh hi1 hK fuel m g h3 _ (by omega) rfl (by omega) (pm.trans (pg.wide (by omega) (Nat.le_refl _))) hg Sg
theorem heapS {s:SV}{n a b:Nat}{f:Nat→Int} (S:St (Ow 1 s (rw n f)::L) h) (hn:n<2305843009213693952) (ha:a<b) (hb:b≤n) (hK:∀ h' g,Pm a b f g→o.Srt a b g→St (Ow 1 s (rw n g)::L) h'→K (.tuple #[]) h') :
    CallsH P F.qaz [.slice s.1 s.2.1 s.2.2,.int .i64 a,.int .i64 b] K h:=by
  refine qaz.ok ?_
  unfold qaz.p0
  simp only [bd]
  rw [show IntKind.i64.wrap ((b:Int) - (a:Int))=((b - a:Nat):Int) by rw [wrapI (by omega) (by omega)]; omega]
  refine ⟨by decide,?_⟩
  have e:IntKind.i64.wrap (Int.tdiv (IntKind.i64.wrap (((b - a:Nat):Int) - 1)) 2)=(((b - a - 1) / 2+1:Nat):Int) - 1:=by
    rw [wrapI (n:=((b - a:Nat):Int) - 1) (by omega) (by omega),show ((b - a:Nat):Int) - 1=((b - a - 1:Nat):Int) by omega]
    rw [show Int.tdiv ((b - a - 1:Nat):Int) 2=(((b - a - 1) / 2:Nat):Int) from rfl,wrapI (by omega) (by omega)]
    omega
  rw [e]
  refine ⟨_,heap_in (hi:=b - a) hn (by omega) (by omega) (fun h' g pg sg Sg=>?_) _ ((b - a - 1) / 2+1) f h _ (Nat.lt_succ_self _) rfl (by omega) (Pm.refl _ _ _) (fun k c h1 h2 h3=>by omega) S⟩
  rw [show a+(b - a)=b by omega] at pg
  refine hK h' g pg (fun x y h1 h2 h3=>?_) Sg
  have:=sg (x - a) (y - a) (Nat.zero_le _) (by omega) (by omega)
  unfold sh at this
  rwa [show a+(x - a)=x by omega,show a+(y - a)=y by omega] at this
theorem rev_loop {s:SV}{n a b:Nat}{f0:Nat→Int} (hn:n<4611686018427387904) (hb:b≤n) (hK:∀ h' f,Pm a b f0 f→St (Ow 1 s (rw n f)::L) h'→K (.tuple #[]) h') :
    ∀ (fuel i j:Nat) (f:Nat→Int) (h:Heap),j+1 - i<fuel→a≤i→j<b→i≤b→Pm a b f0 f→St (Ow 1 s (rw n f)::L) h→qbk.L1 K fuel s.1 s.2.1 s.2.2 i j h
  | 0,_,_,_,_,hf,_,_,_,_,_=>absurd hf (Nat.not_lt_zero _)
  | fuel+1,i,j,f,h,hf,hi,hj,hib,pm,S=>by
    unfold qbk.L1
    by_cases hlt:i<j
    · refine ifT (by simp; omega) (swapT (i:=j) (j:=i) S rfl rfl (by omega) (by omega) fun h2 S2=>?_)
      simp only [bd]
      rw [show IntKind.i64.wrap ((i:Int)+1)=((i+1:Nat):Int) by rw [wrapI (by omega) (by omega)]; omega,show IntKind.i64.wrap ((j:Int) - 1)=((j - 1:Nat):Int) by rw [wrapI (by omega) (by omega)]; omega]
      exact rev_loop hn hb hK fuel (i+1) (j - 1) _ h2 (by omega) (by omega) (by omega) (by omega) (pm.trans (swp_pm f ⟨by omega,by omega⟩ ⟨by omega,by omega⟩)) S2
    · exact ifF (by simp; omega) (hK h f pm S)
theorem revS {s:SV}{n a b:Nat}{f:Nat→Int} (S:St (Ow 1 s (rw n f)::L) h) (hn:n<4611686018427387904) (ha:a<b) (hb:b≤n) (hK:∀ h' g,Pm a b f g→St (Ow 1 s (rw n g)::L) h'→K (.tuple #[]) h') :
    CallsH P F.qbk [.slice s.1 s.2.1 s.2.2,.int .i64 a,.int .i64 b] K h:=by
  refine qbk.ok ?_
  unfold qbk.p0
  simp only [bd]
  rw [show IntKind.i64.wrap ((b:Int) - 1)=((b - 1:Nat):Int) by rw [wrapI (by omega) (by omega)]; omega]
  exact ⟨_,rev_loop hn hb hK _ a (b - 1) f h (Nat.lt_succ_self _) (Nat.le_refl _) (by omega) (by omega) (Pm.refl _ _ _) S⟩
theorem order2S {s:SV}{n:Nat}{f:Nat→Int}{a b:Nat}{c:Addr}{cs:List Value}{x:Int} (S:St (Ow 1 s (rw n f)::Bx c [.int .i64 x]::L) h) (ha:a<n) (hb:b<n)
    (hK:∀ h' (i j:Nat) (y:Int),(i=a∧j=b∨i=b∧j=a)→St (Ow 1 s (rw n f)::Bx c [.int .i64 y]::L) h'→K (.tuple #[.int .i64 i,.int .i64 j]) h') :
    CallsH P F.qch [.slice s.1 s.2.1 s.2.2,.int .i64 a,.int .i64 b,.pointer (some c)] K h:=by
  refine qch.ok ?_
  unfold qch.p0
  refine less2T (i:=b) (j:=a) S rfl rfl hb ha ?_
  cases hl:o.lt (f b) (f a) with
  | false=>exact ifF rfl (hK h a b x (.inl ⟨rfl,rfl⟩) S)
  | true =>
    refine ifT rfl ⟨c,rfl,x,?_,c,rfl,?_⟩
    · have:=S.p1.c 0 (v:=.int .i64 x) rfl
      exact this
    · refine S.p1.wr 0 (by simp) rfl fun h' S'=>?_
      exact hK h' b a _ (.inr ⟨rfl,rfl⟩) S'.p1
theorem medianS {s:SV}{n:Nat}{f:Nat→Int}{a b d:Nat}{c:Addr}{x:Int} (S:St (Ow 1 s (rw n f)::Bx c [.int .i64 x]::L) h) (ha:a<n) (hb:b<n) (hd:d<n)
    (hK:∀ h' (i:Nat) (y:Int),(i=a∨i=b∨i=d)→St (Ow 1 s (rw n f)::Bx c [.int .i64 y]::L) h'→K (.int .i64 i) h') :
    CallsH P F.qcj [.slice s.1 s.2.1 s.2.2,.int .i64 a,.int .i64 b,.int .i64 d,.pointer (some c)] K h:=by
  refine qcj.ok ?_
  unfold qcj.p0
  refine order2S (cs:=[]) S ha hb fun h1 a1 b1 y1 e1 S1=>⟨_,_,rfl,?_⟩
  refine order2S (cs:=[]) S1 (by omega) hd fun h2 b2 d2 y2 e2 S2=>⟨_,_,rfl,?_⟩
  refine order2S (cs:=[]) S2 (by omega) (by omega) fun h3 a3 b3 y3 e3 S3=>⟨_,_,rfl,?_⟩
  exact hK h3 b3 y3 (by omega) S3
theorem medAdjS {s:SV}{n:Nat}{f:Nat→Int}{a:Nat}{c:Addr}{x:Int} (S:St (Ow 1 s (rw n f)::Bx c [.int .i64 x]::L) h) (hn:n<4611686018427387904) (ha:1≤a) (hb:a+1<n)
    (hK:∀ h' (i:Nat) (y:Int),(a≤i+1∧i≤a+1)→St (Ow 1 s (rw n f)::Bx c [.int .i64 y]::L) h'→K (.int .i64 i) h') :
    CallsH P F.qbw [.slice s.1 s.2.1 s.2.2,.int .i64 a,.pointer (some c)] K h:=by
  refine qbw.ok ?_
  unfold qbw.p0
  rw [show IntKind.i64.wrap ((a:Int) - 1)=((a - 1:Nat):Int) by rw [wrapI (by omega) (by omega)]; omega,show IntKind.i64.wrap ((a:Int)+1)=((a+1:Nat):Int) by rw [wrapI (by omega) (by omega)]; omega]
  exact medianS S (by omega) (by omega) (by omega) fun h' i y e S'=>⟨_,rfl,hK h' i y (by omega) S'⟩
theorem pivotS {s:SV}{n a b:Nat}{f:Nat→Int} (S:St (Ow 1 s (rw n f)::L) h) (hn:n<4611686018427387904) (ha:a+12<b) (hb:b≤n) (hK:∀ h' (i:Nat) (y:Int),a≤i→i<b→St (Ow 1 s (rw n f)::L) h'→K (.tuple #[.int .i64 i,.int .i64 y]) h') :
    CallsH P F.qbc [.slice s.1 s.2.1 s.2.2,.int .i64 a,.int .i64 b] K h:=by
  refine qbc.ok ?_
  unfold qbc.p0
  simp only [bd]
  rw [show IntKind.i64.wrap ((b:Int) - (a:Int))=((b - a:Nat):Int) by rw [wrapI (by omega) (by omega)]; omega]
  have S0:St (Ow 1 s (rw n f)::Bx (top h) [.int .i64 0]::L) (al h #[.int .i64 0] T.int):=(S.al [.int .i64 0] T.int).p1
  have eq4:IntKind.i64.wrap (Int.tdiv ((b - a:Nat):Int) 4)=(((b - a) / 4:Nat):Int):=by
    rw [show Int.tdiv ((b - a:Nat):Int) 4=(((b - a) / 4:Nat):Int) from rfl,wrapI (by omega) (by omega)]
  have ek:∀ k:Nat,1≤k→k≤3→IntKind.i64.wrap ((a:Int)+IntKind.i64.wrap ((((b - a) / 4:Nat):Int) * ((k:Nat):Int)))=((a+(b - a) / 4 * k:Nat):Int):=fun k h1 h3=>by
    have hm:(b - a) / 4 * k≤(b - a) / 4 * 3:=Nat.mul_le_mul_left _ h3
    rw [show (((b - a) / 4:Nat):Int) * (k:Int)=(((b - a) / 4 * k:Nat):Int) by rw [Int.natCast_mul],wrapI (n:=(((b - a) / 4 * k:Nat):Int)) (by omega) (by omega),wrapI (by omega) (by omega)]
    omega
  rw [eq4,show IntKind.i64.wrap ((a:Int)+IntKind.i64.wrap ((((b - a) / 4:Nat):Int) * 1))=_ from ek 1 (by omega) (by omega),show IntKind.i64.wrap ((a:Int)+IntKind.i64.wrap ((((b - a) / 4:Nat):Int) * 2))=_ from ek 2 (by omega) (by omega),show IntKind.i64.wrap ((a:Int)+IntKind.i64.wrap ((((b - a) / 4:Nat):Int) * 3))=_ from ek 3 (by omega) (by omega)]
  refine ⟨by decide,by decide,by decide,?_⟩
  have j2:∀ (i j k:Nat) (x:Int) (h':Heap),a≤i→i<b→a≤j→j<b→a≤k→k<b→St (Ow 1 s (rw n f)::Bx (top h) [.int .i64 x]::L) h'→qbc.j2 K s.1 s.2.1 s.2.2 (top h) i j k h':=by
    intro i j k x h' i1 i2 j1 j2 k1 k2 S'
    unfold qbc.j2
    refine medianS S' (by omega) (by omega) (by omega) fun h3 m y e S3=>⟨_,rfl,?_⟩
    unfold qbc.j1
    refine ⟨y,S3.p1.c 0 rfl,?_⟩
    simp only [bd]
    have S4:St (Ow 1 s (rw n f)::L) h3:=S3.p1.tl
    exact ⟨fun _=>hK h3 m 1 (by omega) (by omega) S4,fun _=>⟨fun _=>hK h3 m 2 (by omega) (by omega) S4,fun _=>hK h3 m 0 (by omega) (by omega) S4⟩⟩
  refine ifT (by simp; omega) ?_
  by_cases h50:50≤b - a
  · refine ifT (by simp; omega) ?_
    refine medAdjS S0 hn (by omega) (by omega) fun h1 i1 y1 e1 S1=>⟨_,rfl,?_⟩
    refine medAdjS S1 hn (by omega) (by omega) fun h2 i2 y2 e2 S2=>⟨_,rfl,?_⟩
    refine medAdjS S2 hn (by omega) (by omega) fun h3 i3 y3 e3 S3=>⟨_,rfl,?_⟩
    exact j2 _ _ _ _ _ (by omega) (by omega) (by omega) (by omega) (by omega) (by omega) S3
  · exact ifF (by simp; omega) (j2 _ _ _ _ _ (by omega) (by omega) (by omega) (by omega) (by omega) (by omega) S0)
theorem wm1 {n k:Nat} (hn:n<4611686018427387904) (h1:1≤k) (h2:k≤n):IntKind.i64.wrap ((k:Int) - 1)=((k - 1:Nat):Int):=by rw [wrapI (by omega) (by omega)]; omega
theorem wp1 {n k:Nat} (hn:n<4611686018427387904) (h2:k≤n):IntKind.i64.wrap ((k:Int)+1)=((k+1:Nat):Int):=by rw [wrapI (by omega) (by omega)]; omega
section
variable {s:SV}{n a b:Nat}{f0:Nat→Int}
variable (hn:n<4611686018427387904) (hab:a<b∧b≤n) (low0:0<a→∀ k,a≤k→k<b→o.le (f0 (a - 1)) (f0 k))
include low0 hab in
theorem pm_low {f:Nat→Int} (pm:Pm a b f0 f) (h0:0<a) (k:Nat) (h1:a≤k) (h2:k<b):o.le (f (a - 1)) (f k):=by
  obtain ⟨j,j1,j2,j3⟩:=pm.inn ⟨h1,h2⟩
  rw [pm.out (k:=a - 1) (.inl (by omega)),j3]
  exact low0 h0 j j1 j2
include hn hab in
theorem pin_right {R:OA→Nat→Nat→Int→Int→Int→Int→Heap→Prop}{i t:Nat} (hi:a<i∧i<b) (ht:t<5)
    (hQ:∀ h' f,Pm a b f0 f→o.Srt a i f→St (Ow 1 s (rw n f)::L) h'→R s.1 s.2.1 s.2.2 a b i ((t+1:Nat):Int) h') :
    ∀ (fuel j:Nat) (f:Nat→Int) (h:Heap),b - j<fuel→i<j→Pm a b f0 f→o.Srt a i f→St (Ow 1 s (rw n f)::L) h→qad.L5 K R fuel s.1 s.2.1 s.2.2 a b i t j h
  | 0,_,_,_,hf,_,_,_,_=>absurd hf (Nat.not_lt_zero _)
  | fuel+1,j,f,h,hf,hj,pm,sr,S=>by
    unfold qad.L5
    have j2:qad.j2 K R s.1 s.2.1 s.2.2 a b i t h:=by
      unfold qad.j2
      simp only [bd]
      rw [wp1 (n:=5) (by omega) (by omega)]
      exact hQ h f pm sr S
    by_cases hlt:j<b
    · rw [wm1 (n:=n) hn (by omega) (by omega)]
      refine ifT (by simp; omega) (less2T (i:=j) (j:=j - 1) S rfl rfl (by omega) (by omega) ?_)
      cases hl:o.lt (f j) (f (j - 1)) with
      | false=>exact ifT rfl j2
      | true =>
        refine ifF rfl (swapT (i:=j - 1) (j:=j) S rfl rfl (by omega) (by omega) fun h2 S2=>?_)
        simp only [bd]
        rw [wp1 (n:=n) hn (by omega)]
        refine pin_right hi ht hQ fuel (j+1) _ h2 (by omega) (by omega) (pm.trans (swp_pm f ⟨by omega,by omega⟩ ⟨by omega,by omega⟩)) ?_ S2
        intro x y hx hxy hy
        unfold swp
        rw [if_neg (by omega),if_neg (by omega),if_neg (by omega),if_neg (by omega)]
        exact sr x y hx hxy hy
    · exact ifF (by simp; omega) j2
include hn hab in
theorem pin_j4 {R:OA→Nat→Nat→Int→Int→Int→Int→Heap→Prop}{i t:Nat} (hi:a<i∧i<b) (ht:t<5)
    (hQ:∀ h' f,Pm a b f0 f→o.Srt a i f→St (Ow 1 s (rw n f)::L) h'→R s.1 s.2.1 s.2.2 a b i ((t+1:Nat):Int) h') {f:Nat→Int}{h:Heap} (pm:Pm a b f0 f) (sr:o.Srt a i f) (S:St (Ow 1 s (rw n f)::L) h) :
    qad.j4 K R s.1 s.2.1 s.2.2 a b i t h:=by
  unfold qad.j4
  rw [show IntKind.i64.wrap ((b:Int) - (i:Int))=((b - i:Nat):Int) by rw [wrapI (by omega) (by omega)]; omega]
  simp only [bd]
  rw [wp1 (n:=n) hn (by omega)]
  by_cases h2:2≤b - i
  · exact ifT (by simp; omega) ⟨_,pin_right hn hab hi ht hQ _ (i+1) f h (Nat.lt_succ_self _) (by omega) pm sr S⟩
  · refine ifF (by simp; omega) ?_
    unfold qad.j2
    simp only [bd]
    rw [wp1 (n:=5) (by omega) (by omega)]
    exact hQ h f pm sr S
include hn hab low0 in
theorem pin_left {R:OA→Nat→Nat→Int→Int→Int→Int→Heap→Prop}{i t:Nat} (hi:a<i∧i<b) (ht:t<5)
    (hQ:∀ h' f,Pm a b f0 f→o.Srt a i f→St (Ow 1 s (rw n f)::L) h'→R s.1 s.2.1 s.2.2 a b i ((t+1:Nat):Int) h') :
    ∀ (fuel j:Nat) (f:Nat→Int) (h:Heap),j<fuel→a≤j→j<i→Pm a b f0 f→InsI o a (i - 1) j f→St (Ow 1 s (rw n f)::L) h→qad.L6 K R fuel s.1 s.2.1 s.2.2 a b i t j h
  | 0,_,_,_,hf,_,_,_,_,_=>absurd hf (Nat.not_lt_zero _)
  | fuel+1,j,f,h,hf,ha,hj,pm,iv,S=>by
    unfold qad.L6
    have stop:(a<j→o.lt (f j) (f (j - 1))=false)→qad.j4 K R s.1 s.2.1 s.2.2 a b i t h:=fun e=>by
      have:=iv.done (by omega) e
      rw [show i - 1+1=i by omega] at this
      exact pin_j4 hn hab hi ht hQ pm this S
    by_cases h1:1≤j
    · rw [wm1 (n:=n) hn (by omega) (by omega)]
      refine ifT (by simp; omega) (less2T (i:=j) (j:=j - 1) S rfl rfl (by omega) (by omega) ?_)
      cases hl:o.lt (f j) (f (j - 1)) with
      | false=>exact ifT rfl (stop fun _=>hl)
      | true =>
        have hgt:a<j:=by
          by_cases h:a<j
          · exact h
          · have e:j=a:=by omega
            subst e
            have:=pm_low hab low0 pm (by omega) j (Nat.le_refl _) (by omega)
            unfold Lift.Ord.le at this
            rw [hl] at this
            cases this
        refine ifF rfl (swapT (i:=j - 1) (j:=j) S rfl rfl (by omega) (by omega) fun h2 S2=>?_)
        simp only [bd]
        exact pin_left hi ht hQ fuel (j - 1) _ h2 (by omega) (by omega) (by omega) (pm.trans (swp_pm f ⟨by omega,by omega⟩ ⟨by omega,by omega⟩)) (iv.swap hgt (by omega) hl) S2
    · exact ifF (by simp; omega) (stop fun e=>by omega)
include hn hab low0 in
theorem pin_j3 {R:OA→Nat→Nat→Int→Int→Int→Int→Heap→Prop}{i t:Nat} (hi:a<i∧i≤b) (ht:t<5) (hF:∀ h' f,Pm a b f0 f→St (Ow 1 s (rw n f)::L) h'→K (.bool false) h') (hT:∀ h' f,Pm a b f0 f→o.Srt a b f→St (Ow 1 s (rw n f)::L) h'→K (.bool true) h')
    (hQ:i<b→∀ h' f,Pm a b f0 f→o.Srt a i f→St (Ow 1 s (rw n f)::L) h'→R s.1 s.2.1 s.2.2 a b i ((t+1:Nat):Int) h') {f:Nat→Int}{h:Heap} (pm:Pm a b f0 f) (sr:o.Srt a i f) (hlt:i<b→o.lt (f i) (f (i - 1))=true) (S:St (Ow 1 s (rw n f)::L) h) :
    qad.j3 K R s.1 s.2.1 s.2.2 a b i t h:=by
  unfold qad.j3
  by_cases he:i=b
  · subst he
    exact ifT (by simp) (hT h f pm sr S)
  · refine ifF (by simp; omega) ?_
    have hib:i<b:=by omega
    cases decide (IntKind.i64.wrap ((b:Int) - (a:Int))<50) with
    | true=>exact ifT rfl (hF h f pm S)
    | false =>
      rw [wm1 (n:=n) hn (by omega) (by omega)]
      refine ifF rfl (swapT (i:=i - 1) (j:=i) S rfl rfl (by omega) (by omega) fun h2 S2=>?_)
      have pm2:Pm a b f0 (swp f i (i - 1)):=pm.trans (swp_pm f ⟨by omega,by omega⟩ ⟨by omega,by omega⟩)
      have sr2:o.Srt a (i - 1) (swp f i (i - 1)):=fun x y hx hxy hy=>by
        unfold swp
        rw [if_neg (by omega),if_neg (by omega),if_neg (by omega),if_neg (by omega)]
        exact sr x y hx hxy (by omega)
      rw [show IntKind.i64.wrap ((i:Int) - (a:Int))=((i - a:Nat):Int) by rw [wrapI (by omega) (by omega)]; omega]
      simp only [bd]
      by_cases h2i:2≤i - a
      · exact ifT (by simp; omega) ⟨_,pin_left hn hab low0 ⟨hi.1,hib⟩ ht (hQ hib) _ (i - 1) _ h2 (Nat.lt_succ_self _) (by omega) (by omega) pm2 (InsI.start sr2) S2⟩
      · refine ifF (by simp; omega) (pin_j4 hn hab ⟨hi.1,hib⟩ ht (hQ hib) pm2 (fun x y hx hxy hy=>by omega) S2)
include hn hab low0 in
theorem pin_scan {R:OA→Nat→Nat→Int→Int→Int→Int→Heap→Prop}{t:Nat} (ht:t<5) (hF:∀ h' f,Pm a b f0 f→St (Ow 1 s (rw n f)::L) h'→K (.bool false) h') (hT:∀ h' f,Pm a b f0 f→o.Srt a b f→St (Ow 1 s (rw n f)::L) h'→K (.bool true) h')
    (hQ:∀ h' f (i:Nat),a<i→i<b→Pm a b f0 f→o.Srt a i f→St (Ow 1 s (rw n f)::L) h'→R s.1 s.2.1 s.2.2 a b i ((t+1:Nat):Int) h') :
    ∀ (fuel i:Nat) (f:Nat→Int) (h:Heap),b - i<fuel→a<i→i≤b→Pm a b f0 f→o.Srt a i f→St (Ow 1 s (rw n f)::L) h→qad.L7 K R fuel s.1 s.2.1 s.2.2 a b i t h
  | 0,_,_,_,hf,_,_,_,_,_=>absurd hf (Nat.not_lt_zero _)
  | fuel+1,i,f,h,hf,ha,hi,pm,sr,S=>by
    unfold qad.L7
    unfold qad.j8
    by_cases hlt:i<b
    · rw [wm1 (n:=n) hn (by omega) (by omega)]
      refine ifT (by simp; omega) (less2T (i:=i) (j:=i - 1) S rfl rfl (by omega) (by omega) ?_)
      cases hl:o.lt (f i) (f (i - 1)) with
      | true=>exact ifF rfl (pin_j3 hn hab low0 ⟨ha,hi⟩ ht hF hT (fun hib h' g pg sg Sg=>hQ h' g i ha hib pg sg Sg) pm sr (fun _=>hl) S)
      | false =>
        refine ifT rfl ?_
        simp only [bd]
        rw [wp1 (n:=n) hn (by omega)]
        refine pin_scan ht hF hT hQ fuel (i+1) f h (by omega) (by omega) (by omega) pm ?_ S
        intro x y hx hxy hy
        by_cases hyi:y=i
        · subst hyi
          by_cases hxe:x=y - 1
          · subst hxe; exact hl
          · exact o.le_trans (sr x (y - 1) hx (by omega) (by omega)) hl
        · exact sr x y hx hxy (by omega)
    · exact ifF (by simp; omega) (ifF rfl (pin_j3 hn hab low0 ⟨ha,hi⟩ ht hF hT (fun hib=>absurd hib hlt) pm sr (fun hib=>absurd hib hlt) S))
include hn hab low0 in
theorem pin_steps (hF:∀ h' f,Pm a b f0 f→St (Ow 1 s (rw n f)::L) h'→K (.bool false) h') (hT:∀ h' f,Pm a b f0 f→o.Srt a b f→St (Ow 1 s (rw n f)::L) h'→K (.bool true) h') :
    ∀ (fuel i t:Nat) (f:Nat→Int) (h:Heap),5 - t<fuel→t≤5→a<i→i≤b→Pm a b f0 f→o.Srt a i f→St (Ow 1 s (rw n f)::L) h→qad.L1 K fuel s.1 s.2.1 s.2.2 a b i t h
  | 0,_,_,_,_,hf,_,_,_,_,_,_=>absurd hf (Nat.not_lt_zero _)
  | fuel+1,i,t,f,h,hf,ht,ha,hi,pm,sr,S=>by
    unfold qad.L1
    by_cases hlt:t<5
    · exact ifT (by simp; omega) ⟨_,pin_scan hn hab low0 hlt hF hT (fun h' g k k1 k2 pg sg Sg=>pin_steps hF hT fuel k (t+1) g h' (by omega) (by omega) k1 (by omega) pg sg Sg) _ i f h (Nat.lt_succ_self _) ha hi pm sr S⟩
    · exact ifF (by simp; omega) (hF h f pm S)
include hn hab low0 in
theorem pinS {h:Heap} (S:St (Ow 1 s (rw n f0)::L) h) (hF:∀ h' f,Pm a b f0 f→St (Ow 1 s (rw n f)::L) h'→K (.bool false) h') (hT:∀ h' f,Pm a b f0 f→o.Srt a b f→St (Ow 1 s (rw n f)::L) h'→K (.bool true) h') :
    CallsH P F.qad [.slice s.1 s.2.1 s.2.2,.int .i64 a,.int .i64 b] K h:=by
  refine qad.ok ?_
  unfold qad.p0
  simp only [bd]
  rw [wp1 (n:=n) hn (by omega)]
  exact ⟨_,pin_steps hn hab low0 hF hT _ (a+1) 0 f0 h (Nat.lt_succ_self _) (by omega) (by omega) (by omega) (Pm.refl _ _ _) (fun x y hx hxy hy=>by omega) S⟩
end
section
variable {s:SV}{n a b:Nat}{f0:Nat→Int}
variable (hn:n<4611686018427387904) (hb:b≤n)
structure PtI (a b:Nat) (f0:Nat→Int) (i j:Nat) (f:Nat→Int):Prop where
  hi:a<i
  hij:i≤j+1
  hj:j<b
  pm:Pm a b f0 f
  lo:∀ k,a<k→k<i→o.lt (f k) (f a)=true
  hi':∀ k,j<k→k<b→o.lt (f k) (f a)=false
theorem PtI.up {i j:Nat}{f:Nat→Int} (p:PtI a b f0 i j f) (hij:i≤j) (h:o.lt (f i) (f a)=true):PtI a b f0 (i+1) j f :=
  ⟨by have:=p.hi; omega,by omega,p.hj,p.pm,fun k h1 h2=>by
    by_cases e:k=i
    · subst e; exact h
    · exact p.lo k h1 (by omega),p.hi'⟩
theorem PtI.down {i j:Nat}{f:Nat→Int} (p:PtI a b f0 i j f) (hij:i≤j) (h:o.lt (f j) (f a)=false):PtI a b f0 i (j - 1) f :=
  ⟨p.hi,by omega,by have:=p.hj; omega,p.pm,p.lo,fun k h1 h2=>by
    by_cases e:k=j
    · subst e; exact h
    · exact p.hi' k (by omega) h2⟩
theorem PtI.swap {i j:Nat}{f:Nat→Int} (p:PtI a b f0 i j f) (hij:i≤j) (h1:o.lt (f i) (f a)=false) (h2:o.lt (f j) (f a)=true):i<j∧PtI a b f0 (i+1) (j - 1) (swp f i j):=by
  have hne:i≠j:=fun e=>by subst e; rw [h1] at h2; cases h2
  have:=p.hi
  have:=p.hj
  have ea:swp f i j a=f a:=by unfold swp; rw [if_neg (by omega),if_neg (by omega)]
  refine ⟨by omega,by omega,by omega,by omega,p.pm.trans (swp_pm f ⟨by omega,by omega⟩ ⟨by omega,by omega⟩),fun k k1 k2=>?_,fun k k1 k2=>?_⟩
  · rw [ea]
    unfold swp
    by_cases e:k=i
    · rw [if_pos e]; exact h2
    · rw [if_neg e,if_neg (by omega)]; exact p.lo k k1 (by omega)
  · rw [ea]
    unfold swp
    rw [if_neg (by omega)]
    by_cases e:k=j
    · rw [if_pos e]; exact h1
    · rw [if_neg e]; exact p.hi' k (by omega) k2
theorem PtI.fin {i j:Nat}{f:Nat→Int} (p:PtI a b f0 i j f) (hij:j<i):Pm a b f0 (swp f j a)∧(a≤j∧j<b)∧(∀ k,a≤k→k<j→o.le (swp f j a k) (swp f j a j))∧∀ k,j<k→k<b→o.le (swp f j a j) (swp f j a k):=by
  have:=p.hi
  have:=p.hj
  have:=p.hij
  have ej:swp f j a j=f a:=by unfold swp; rw [if_pos rfl]
  refine ⟨p.pm.trans (swp_pm f ⟨by omega,by omega⟩ ⟨by omega,by omega⟩),⟨by omega,by omega⟩,fun k k1 k2=>?_,fun k k1 k2=>?_⟩
  · rw [ej]
    unfold swp
    rw [if_neg (by omega)]
    by_cases e:k=a
    · rw [if_pos e]; exact o.le_of_lt (p.lo j (by omega) (by omega))
    · rw [if_neg e]; exact o.le_of_lt (p.lo k (by omega) (by omega))
  · rw [ej]
    unfold swp
    rw [if_neg (by omega),if_neg (by omega)]
    exact p.hi' k k1 k2
abbrev PtQ (K:KT) (L:List Asr) (s:SV) (n a b:Nat) (f0:Nat→Int):Prop:=∀ h' g (m:Nat) (d:Bool),Pm a b f0 g→(a≤m∧m<b)→(∀ k,a≤k→k<m→o.le (g k) (g m))→(∀ k,m<k→k<b→o.le (g m) (g k))→St (Ow 1 s (rw n g)::L) h'→K (.tuple #[.int .i64 m,.bool d]) h'
include hn hb in
theorem pt_j6 {R:OA→Nat→Nat→Int→Int→Int→Heap→Prop} (hK:PtQ K L s n a b f0) {i j:Nat}{f:Nat→Int}{h:Heap} (hR:∀ (i' j':Nat) g h',j'+1 - i'<j+1 - i→PtI a b f0 i' j' g→St (Ow 1 s (rw n g)::L) h'→R s.1 s.2.1 s.2.2 a i' j' h')
    (p:PtI a b f0 i j f) (e1:i≤j→o.lt (f i) (f a)=false) (e2:i≤j→o.lt (f j) (f a)=true) (S:St (Ow 1 s (rw n f)::L) h):qab.j6 K R s.1 s.2.1 s.2.2 a i j h:=by
  unfold qab.j6
  have:=p.hi
  have:=p.hj
  have:=p.hij
  by_cases hij:j<i
  · refine ifT (by simp; omega) ?_
    unfold qab.j3
    refine swapT (i:=a) (j:=j) S rfl rfl (by omega) (by omega) fun h2 S2=>?_
    obtain ⟨q1,q2,q3,q4⟩:=p.fin hij
    exact hK h2 _ j false q1 q2 q3 q4 S2
  · obtain ⟨hlt,p2⟩:=p.swap (by omega) (e1 (by omega)) (e2 (by omega))
    refine ifF (by simp; omega) (swapT (i:=j) (j:=i) S rfl rfl (by omega) (by omega) fun h2 S2=>?_)
    simp only [bd]
    rw [wp1 (n:=n) hn (by omega),wm1 (n:=n) hn (by omega) (by omega)]
    exact hR (i+1) (j - 1) _ h2 (by omega) p2 S2
include hn hb in
theorem pt_L7 {R:OA→Nat→Nat→Int→Int→Int→Heap→Prop} (hK:PtQ K L s n a b f0) {i m:Nat} (hR:∀ (i' j':Nat) g h',j'+1 - i'<m→PtI a b f0 i' j' g→St (Ow 1 s (rw n g)::L) h'→R s.1 s.2.1 s.2.2 a i' j' h') :
    ∀ (fuel j:Nat) (f:Nat→Int) (h:Heap),j+1 - i<fuel→j+1 - i≤m→PtI a b f0 i j f→(i≤j→o.lt (f i) (f a)=false)→St (Ow 1 s (rw n f)::L) h→qab.L7 K R fuel s.1 s.2.1 s.2.2 a i j h
  | 0,_,_,_,hf,_,_,_,_=>absurd hf (Nat.not_lt_zero _)
  | fuel+1,j,f,h,hf,hm,p,e1,S=>by
    unfold qab.L7
    unfold qab.j8
    have:=p.hi
    have:=p.hj
    have:=p.hij
    have fin:(i≤j→o.lt (f j) (f a)=true)→qab.j6 K R s.1 s.2.1 s.2.2 a i j h:=fun e2=>pt_j6 hn hb hK (fun i' j' g h' hlt=>hR i' j' g h' (by omega)) p e1 e2 S
    by_cases hij:i≤j
    · refine ifT (by simp; omega) (less2T (i:=j) (j:=a) S rfl rfl (by omega) (by omega) ?_)
      cases hl:o.lt (f j) (f a) with
      | true=>exact ifF rfl (fin fun _=>hl)
      | false =>
        refine ifT rfl ?_
        simp only [bd]
        rw [wm1 (n:=n) hn (by omega) (by omega)]
        exact pt_L7 hK hR fuel (j - 1) f h (by omega) (by omega) (p.down hij hl) (fun hle=>e1 hij) S
    · exact ifF (by simp; omega) (ifF rfl (fin fun e=>absurd e hij))
include hn hb in
theorem pt_L9 {R:OA→Nat→Nat→Int→Int→Int→Heap→Prop} (hK:PtQ K L s n a b f0) {j m:Nat} (hR:∀ (i' j':Nat) g h',j'+1 - i'<m→PtI a b f0 i' j' g→St (Ow 1 s (rw n g)::L) h'→R s.1 s.2.1 s.2.2 a i' j' h') :
    ∀ (fuel i:Nat) (f:Nat→Int) (h:Heap),j+1 - i<fuel→j+1 - i≤m→PtI a b f0 i j f→St (Ow 1 s (rw n f)::L) h→qab.L9 K R fuel s.1 s.2.1 s.2.2 a i j h
  | 0,_,_,_,hf,_,_,_=>absurd hf (Nat.not_lt_zero _)
  | fuel+1,i,f,h,hf,hm,p,S=>by
    unfold qab.L9
    unfold qab.j10
    have:=p.hi
    have:=p.hj
    have:=p.hij
    have fin:(i≤j→o.lt (f i) (f a)=false)→qab.j5 K R s.1 s.2.1 s.2.2 a i j h:=fun e1=>by
      unfold qab.j5
      exact ⟨_,pt_L7 hn hb hK hR _ j f h (Nat.lt_succ_self _) hm p e1 S⟩
    by_cases hij:i≤j
    · refine ifT (by simp; omega) (less2T (i:=i) (j:=a) S rfl rfl (by omega) (by omega) ?_)
      cases hl:o.lt (f i) (f a) with
      | false=>exact ifF rfl (fin fun _=>hl)
      | true =>
        refine ifT rfl ?_
        simp only [bd]
        rw [wp1 (n:=n) hn (by omega)]
        exact pt_L9 hK hR fuel (i+1) f h (by omega) (by omega) (p.up hij hl) S
    · exact ifF (by simp; omega) (ifF rfl (fin fun e=>absurd e hij))
include hn hb in
theorem pt_L4 (hK:PtQ K L s n a b f0):∀ (fuel i j:Nat) (f:Nat→Int) (h:Heap),j+1 - i<fuel→PtI a b f0 i j f→St (Ow 1 s (rw n f)::L) h→qab.L4 K fuel s.1 s.2.1 s.2.2 a i j h
  | 0,_,_,_,_,hf,_,_=>absurd hf (Nat.not_lt_zero _)
  | fuel+1,i,j,f,h,hf,p,S=>by
    unfold qab.L4
    exact ⟨_,pt_L9 hn hb hK (m:=j+1 - i) (fun i' j' g h' hlt p' S'=>pt_L4 hK fuel i' j' g h' (by omega) p' S') _ i f h (Nat.lt_succ_self _) (Nat.le_refl _) p S⟩
include hn hb in
theorem pt_j2 (hK:PtQ K L s n a b f0) {i j:Nat}{f:Nat→Int}{h:Heap} (p:PtI a b f0 i j f) (e1:i≤j→o.lt (f i) (f a)=false) (e2:i≤j→o.lt (f j) (f a)=true) (S:St (Ow 1 s (rw n f)::L) h):qab.j2 K s.1 s.2.1 s.2.2 a i j h:=by
  unfold qab.j2
  have:=p.hi
  have:=p.hj
  have:=p.hij
  by_cases hij:j<i
  · refine ifT (by simp; omega) ?_
    refine swapT (i:=a) (j:=j) S rfl rfl (by omega) (by omega) fun h2 S2=>?_
    obtain ⟨q1,q2,q3,q4⟩:=p.fin hij
    exact hK h2 _ j true q1 q2 q3 q4 S2
  · obtain ⟨hlt,p2⟩:=p.swap (by omega) (e1 (by omega)) (e2 (by omega))
    refine ifF (by simp; omega) (swapT (i:=j) (j:=i) S rfl rfl (by omega) (by omega) fun h2 S2=>?_)
    simp only [bd]
    rw [wp1 (n:=n) hn (by omega),wm1 (n:=n) hn (by omega) (by omega)]
    exact ⟨_,pt_L4 hn hb hK _ (i+1) (j - 1) _ h2 (Nat.lt_succ_self _) p2 S2⟩
include hn hb in
theorem pt_L11 (hK:PtQ K L s n a b f0) {i:Nat} :
    ∀ (fuel j:Nat) (f:Nat→Int) (h:Heap),j+1 - i<fuel→PtI a b f0 i j f→(i≤j→o.lt (f i) (f a)=false)→St (Ow 1 s (rw n f)::L) h→qab.L11 K fuel s.1 s.2.1 s.2.2 a i j h
  | 0,_,_,_,hf,_,_,_=>absurd hf (Nat.not_lt_zero _)
  | fuel+1,j,f,h,hf,p,e1,S=>by
    unfold qab.L11
    unfold qab.j12
    have:=p.hi
    have:=p.hj
    have:=p.hij
    by_cases hij:i≤j
    · refine ifT (by simp; omega) (less2T (i:=j) (j:=a) S rfl rfl (by omega) (by omega) ?_)
      cases hl:o.lt (f j) (f a) with
      | true=>exact ifF rfl (pt_j2 hn hb hK p e1 (fun _=>hl) S)
      | false =>
        refine ifT rfl ?_
        simp only [bd]
        rw [wm1 (n:=n) hn (by omega) (by omega)]
        exact pt_L11 hK fuel (j - 1) f h (by omega) (p.down hij hl) (fun hle=>e1 hij) S
    · exact ifF (by simp; omega) (ifF rfl (pt_j2 hn hb hK p e1 (fun e=>absurd e hij) S))
include hn hb in
theorem pt_L13 (hK:PtQ K L s n a b f0) {j:Nat} :
    ∀ (fuel i:Nat) (f:Nat→Int) (h:Heap),j+1 - i<fuel→PtI a b f0 i j f→St (Ow 1 s (rw n f)::L) h→qab.L13 K fuel s.1 s.2.1 s.2.2 a i j h
  | 0,_,_,_,hf,_,_=>absurd hf (Nat.not_lt_zero _)
  | fuel+1,i,f,h,hf,p,S=>by
    unfold qab.L13
    unfold qab.j14
    have:=p.hi
    have:=p.hj
    have:=p.hij
    have fin:(i≤j→o.lt (f i) (f a)=false)→qab.j1 K s.1 s.2.1 s.2.2 a i j h:=fun e1=>by
      unfold qab.j1
      exact ⟨_,pt_L11 hn hb hK _ j f h (Nat.lt_succ_self _) p e1 S⟩
    by_cases hij:i≤j
    · refine ifT (by simp; omega) (less2T (i:=i) (j:=a) S rfl rfl (by omega) (by omega) ?_)
      cases hl:o.lt (f i) (f a) with
      | false=>exact ifF rfl (fin fun _=>hl)
      | true =>
        refine ifT rfl ?_
        simp only [bd]
        rw [wp1 (n:=n) hn (by omega)]
        exact pt_L13 hK fuel (i+1) f h (by omega) (p.up hij hl) S
    · exact ifF (by simp; omega) (ifF rfl (fin fun e=>absurd e hij))
include hn hb in
theorem partS {c:Nat}{h:Heap} (S:St (Ow 1 s (rw n f0)::L) h) (hc:a≤c∧c<b) (hK:PtQ K L s n a b f0) :
    CallsH P F.qab [.slice s.1 s.2.1 s.2.2,.int .i64 a,.int .i64 b,.int .i64 c] K h:=by
  refine qab.ok ?_
  unfold qab.p0
  refine swapT (i:=c) (j:=a) S rfl rfl (by omega) (by omega) fun h2 S2=>?_
  simp only [bd]
  rw [wp1 (n:=n) hn (by omega),wm1 (n:=n) hn (by omega) (by omega)]
  exact ⟨_,pt_L13 hn hb hK _ (a+1) _ h2 (Nat.lt_succ_self _) ⟨by omega,by omega,by omega,swp_pm f0 ⟨by omega,by omega⟩ ⟨by omega,by omega⟩,fun k h1 h2=>by omega,fun k h1 h2=>by omega⟩ S2⟩
end
section
variable {s:SV}{n a b:Nat}{f0:Nat→Int}{v:Int}
variable (hn:n<4611686018427387904) (hb:b≤n)
structure PeI (a b:Nat) (f0:Nat→Int) (v:Int) (i j:Nat) (f:Nat→Int):Prop where
  hi:a<i
  hij:i≤j+1
  hj:j<b
  pm:Pm a b f0 f
  ev:f a=v
  lo:∀ k,a≤k→k<i→o.le (f k) v
theorem PeI.up {i j:Nat}{f:Nat→Int} (p:PeI a b f0 v i j f) (hij:i≤j) (h:o.lt (f a) (f i)=false):PeI a b f0 v (i+1) j f :=
  ⟨by have:=p.hi; omega,by omega,p.hj,p.pm,p.ev,fun k h1 h2=>by
    by_cases e:k=i
    · subst e; rw [p.ev] at h; exact h
    · exact p.lo k h1 (by omega)⟩
theorem PeI.down {i j:Nat}{f:Nat→Int} (p:PeI a b f0 v i j f) (hij:i≤j):PeI a b f0 v i (j - 1) f :=
  ⟨p.hi,by omega,by have:=p.hj; omega,p.pm,p.ev,p.lo⟩
theorem PeI.swap {i j:Nat}{f:Nat→Int} (p:PeI a b f0 v i j f) (hij:i≤j) (h1:o.lt (f a) (f i)=true) (h2:o.lt (f a) (f j)=false):i<j∧PeI a b f0 v (i+1) (j - 1) (swp f i j):=by
  have hne:i≠j:=fun e=>by subst e; rw [h1] at h2; cases h2
  have:=p.hi
  have:=p.hj
  have ea:swp f i j a=f a:=by unfold swp; rw [if_neg (by omega),if_neg (by omega)]
  refine ⟨by omega,by omega,by omega,by omega,p.pm.trans (swp_pm f ⟨by omega,by omega⟩ ⟨by omega,by omega⟩),by rw [ea]; exact p.ev,fun k k1 k2=>?_⟩
  unfold swp
  by_cases e:k=i
  · rw [if_pos e]; rw [p.ev] at h2; exact h2
  · rw [if_neg e,if_neg (by omega)]; exact p.lo k k1 (by omega)
abbrev PeQ (K:KT) (L:List Asr) (s:SV) (n a b:Nat) (f0:Nat→Int) (v:Int):Prop:=∀ h' g (m:Nat),Pm a b f0 g→(a<m∧m≤b)→(∀ k,a≤k→k<m→o.le (g k) v)→St (Ow 1 s (rw n g)::L) h'→K (.int .i64 m) h'
include hn hb in
theorem pe_j3 {R:OA→Nat→Nat→Int→Int→Int→Heap→Prop} (hK:PeQ K L s n a b f0 v) {i j:Nat}{f:Nat→Int}{h:Heap} (hR:∀ (i' j':Nat) g h',j'+1 - i'<j+1 - i→PeI a b f0 v i' j' g→St (Ow 1 s (rw n g)::L) h'→R s.1 s.2.1 s.2.2 a i' j' h')
    (p:PeI a b f0 v i j f) (e1:i≤j→o.lt (f a) (f i)=true) (e2:i≤j→o.lt (f a) (f j)=false) (S:St (Ow 1 s (rw n f)::L) h):qae.j3 K R s.1 s.2.1 s.2.2 a i j h:=by
  unfold qae.j3
  have:=p.hi
  have:=p.hj
  have:=p.hij
  by_cases hij:j<i
  · exact ifT (by simp; omega) (hK h f i p.pm ⟨by omega,by omega⟩ p.lo S)
  · obtain ⟨hlt,p2⟩:=p.swap (by omega) (e1 (by omega)) (e2 (by omega))
    refine ifF (by simp; omega) (swapT (i:=j) (j:=i) S rfl rfl (by omega) (by omega) fun h2 S2=>?_)
    simp only [bd]
    rw [wp1 (n:=n) hn (by omega),wm1 (n:=n) hn (by omega) (by omega)]
    exact hR (i+1) (j - 1) _ h2 (by omega) p2 S2
include hn hb in
theorem pe_L4 {R:OA→Nat→Nat→Int→Int→Int→Heap→Prop} (hK:PeQ K L s n a b f0 v) {i m:Nat} (hR:∀ (i' j':Nat) g h',j'+1 - i'<m→PeI a b f0 v i' j' g→St (Ow 1 s (rw n g)::L) h'→R s.1 s.2.1 s.2.2 a i' j' h') :
    ∀ (fuel j:Nat) (f:Nat→Int) (h:Heap),j+1 - i<fuel→j+1 - i≤m→PeI a b f0 v i j f→(i≤j→o.lt (f a) (f i)=true)→St (Ow 1 s (rw n f)::L) h→qae.L4 K R fuel s.1 s.2.1 s.2.2 a i j h
  | 0,_,_,_,hf,_,_,_,_=>absurd hf (Nat.not_lt_zero _)
  | fuel+1,j,f,h,hf,hm,p,e1,S=>by
    unfold qae.L4
    unfold qae.j5
    have:=p.hi
    have:=p.hj
    have:=p.hij
    have fin:(i≤j→o.lt (f a) (f j)=false)→qae.j3 K R s.1 s.2.1 s.2.2 a i j h:=fun e2=>pe_j3 hn hb hK (fun i' j' g h' hlt=>hR i' j' g h' (by omega)) p e1 e2 S
    by_cases hij:i≤j
    · refine ifT (by simp; omega) (less2T (i:=a) (j:=j) S rfl rfl (by omega) (by omega) ?_)
      cases hl:o.lt (f a) (f j) with
      | false=>exact ifF rfl (fin fun _=>hl)
      | true =>
        refine ifT rfl ?_
        simp only [bd]
        rw [wm1 (n:=n) hn (by omega) (by omega)]
        exact pe_L4 hK hR fuel (j - 1) f h (by omega) (by omega) (p.down hij) (fun hle=>e1 hij) S
    · exact ifF (by simp; omega) (ifF rfl (fin fun e=>absurd e hij))
include hn hb in
theorem pe_L6 {R:OA→Nat→Nat→Int→Int→Int→Heap→Prop} (hK:PeQ K L s n a b f0 v) {j m:Nat} (hR:∀ (i' j':Nat) g h',j'+1 - i'<m→PeI a b f0 v i' j' g→St (Ow 1 s (rw n g)::L) h'→R s.1 s.2.1 s.2.2 a i' j' h') :
    ∀ (fuel i:Nat) (f:Nat→Int) (h:Heap),j+1 - i<fuel→j+1 - i≤m→PeI a b f0 v i j f→St (Ow 1 s (rw n f)::L) h→qae.L6 K R fuel s.1 s.2.1 s.2.2 a i j h
  | 0,_,_,_,hf,_,_,_=>absurd hf (Nat.not_lt_zero _)
  | fuel+1,i,f,h,hf,hm,p,S=>by
    unfold qae.L6
    unfold qae.j7
    have:=p.hi
    have:=p.hj
    have:=p.hij
    have fin:(i≤j→o.lt (f a) (f i)=true)→qae.j2 K R s.1 s.2.1 s.2.2 a i j h:=fun e1=>by
      unfold qae.j2
      exact ⟨_,pe_L4 hn hb hK hR _ j f h (Nat.lt_succ_self _) hm p e1 S⟩
    by_cases hij:i≤j
    · refine ifT (by simp; omega) (less2T (i:=a) (j:=i) S rfl rfl (by omega) (by omega) ?_)
      cases hl:o.lt (f a) (f i) with
      | true=>exact ifF rfl (fin fun _=>hl)
      | false =>
        refine ifT rfl ?_
        simp only [bd]
        rw [wp1 (n:=n) hn (by omega)]
        exact pe_L6 hK hR fuel (i+1) f h (by omega) (by omega) (p.up hij hl) S
    · exact ifF (by simp; omega) (ifF rfl (fin fun e=>absurd e hij))
include hn hb in
theorem pe_L1 (hK:PeQ K L s n a b f0 v):∀ (fuel i j:Nat) (f:Nat→Int) (h:Heap),j+1 - i<fuel→PeI a b f0 v i j f→St (Ow 1 s (rw n f)::L) h→qae.L1 K fuel s.1 s.2.1 s.2.2 a i j h
  | 0,_,_,_,_,hf,_,_=>absurd hf (Nat.not_lt_zero _)
  | fuel+1,i,j,f,h,hf,p,S=>by
    unfold qae.L1
    exact ⟨_,pe_L6 hn hb hK (m:=j+1 - i) (fun i' j' g h' hlt p' S'=>pe_L1 hK fuel i' j' g h' (by omega) p' S') _ i f h (Nat.lt_succ_self _) (Nat.le_refl _) p S⟩
include hn hb in
theorem pequS {c:Nat}{h:Heap} (S:St (Ow 1 s (rw n f0)::L) h) (hc:a≤c∧c<b) (hK:PeQ K L s n a b f0 (f0 c)) :
    CallsH P F.qae [.slice s.1 s.2.1 s.2.2,.int .i64 a,.int .i64 b,.int .i64 c] K h:=by
  refine qae.ok ?_
  unfold qae.p0
  refine swapT (i:=c) (j:=a) S rfl rfl (by omega) (by omega) fun h2 S2=>?_
  simp only [bd]
  rw [wp1 (n:=n) hn (by omega),wm1 (n:=n) hn (by omega) (by omega)]
  have ea:swp f0 a c a=f0 c:=by unfold swp; rw [if_pos rfl]
  exact ⟨_,pe_L1 hn hb hK _ (a+1) (b - 1) _ h2 (Nat.lt_succ_self _) ⟨by omega,by omega,by omega,swp_pm f0 ⟨by omega,by omega⟩ ⟨by omega,by omega⟩,ea,fun k h1 h2=>by
    rw [show k=a by omega,ea]; exact o.le_refl _⟩ S2⟩
end
section
variable {s:SV}{n a b:Nat}{f0:Nat→Int}
variable (hn:n<2305843009213693952) (hab:a+12<b∧b≤n)
include hn hab in
theorem brk_loop (hK:∀ h' g,Pm a b f0 g→St (Ow 1 s (rw n g)::L) h'→K (.tuple #[]) h') {c:Addr}{M:Nat} (hM:1≤M∧M≤2 * (b - a)) :
    ∀ (fuel i:Nat) (f:Nat→Int) (h:Heap) (x:Int),a+(b - a) / 4 * 2+2 - i<fuel→a≤i→Pm a b f0 f→St (Ow 1 s (rw n f)::Bx c [.int .u64 x]::L) h→qaw.L1 K fuel s.1 s.2.1 s.2.2 a ((b - a:Nat):Int) c M i h
  | 0,_,_,_,_,hf,_,_,_=>absurd hf (Nat.not_lt_zero _)
  | fuel+1,i,f,h,x,hf,ha,pm,S=>by
    unfold qaw.L1
    have eq4:IntKind.i64.wrap (Int.tdiv ((b - a:Nat):Int) 4)=(((b - a) / 4:Nat):Int):=by
      rw [show Int.tdiv ((b - a:Nat):Int) 4=(((b - a) / 4:Nat):Int) from rfl,wrapI (by omega) (by omega)]
    rw [eq4,show IntKind.i64.wrap ((IntKind.i64.wrap ((a:Int)+(IntKind.i64.wrap ((((b - a) / 4:Nat):Int) * 2))))+1)=((a+(b - a) / 4 * 2+1:Nat):Int) by
      rw [wrapI (n:=(((b - a) / 4:Nat):Int) * 2) (by omega) (by omega),wrapI (n:=(a:Int)+(((b - a) / 4:Nat):Int) * 2) (by omega) (by omega),wrapI (by omega) (by omega)]; omega]
    refine ⟨by decide,?_⟩
    by_cases hle:i≤a+(b - a) / 4 * 2+1
    · refine ifT (by simp; omega) (xorS S.p1 fun h1 y S1=>⟨y,rfl,?_⟩)
      rw [show IntKind.u64.wrap ((M:Int) - 1)=((M - 1:Nat):Int) by rw [IntKind.wrap_u64]; omega]
      obtain ⟨k,ek,hk⟩:=and_le y (M - 1) (by omega)
      rw [ek]
      simp only [bd]
      rw [wrapI (n:=(k:Int)) (by omega) (by omega)]
      have j2:∀ q:Nat,q<b - a→qaw.j2 K (qaw.L1 K fuel) s.1 s.2.1 s.2.2 a ((b - a:Nat):Int) c M i q h1:=by
        intro q hq
        unfold qaw.j2
        rw [show IntKind.i64.wrap ((a:Int)+(q:Int))=((a+q:Nat):Int) by rw [wrapI (by omega) (by omega)]; omega]
        refine swapT (i:=a+q) (j:=i) S1.p1 rfl rfl (by omega) (by omega) fun h2 S2=>?_
        simp only [bd]
        rw [wp1 (n:=n) (by omega) (by omega)]
        exact brk_loop hK hM fuel (i+1) _ h2 _ (by omega) (by omega) (pm.trans (swp_pm f ⟨by omega,by omega⟩ ⟨by omega,by omega⟩)) S2
      by_cases hge:b - a≤k
      · refine ifT (by simp; omega) ?_
        rw [show IntKind.i64.wrap ((k:Int) - ((b - a:Nat):Int))=((k - (b - a):Nat):Int) by rw [wrapI (by omega) (by omega)]; omega]
        exact j2 _ (by omega)
      · exact ifF (by simp; omega) (j2 k (by omega))
    · exact ifF (by simp; omega) (hK h f pm S.p1.tl)
include hn hab in
theorem brkS {h:Heap} (S:St (Ow 1 s (rw n f0)::L) h) (hK:∀ h' g,Pm a b f0 g→St (Ow 1 s (rw n g)::L) h'→K (.tuple #[]) h') :
    CallsH P F.qaw [.slice s.1 s.2.1 s.2.2,.int .i64 a,.int .i64 b] K h:=by
  refine qaw.ok ?_
  unfold qaw.p0
  simp only [bd]
  rw [show IntKind.i64.wrap ((b:Int) - (a:Int))=((b - a:Nat):Int) by rw [wrapI (by omega) (by omega)]; omega]
  refine ifT (by simp; omega) ?_
  have S0:St (Bx (top h) [.int .u64 0]::Ow 1 s (rw n f0)::L) (al h #[.int .u64 0] T.slices_xorshift):=S.al [.int .u64 0] T.slices_xorshift
  refine S0.wr 0 (by simp) rfl fun h3 S3=>?_
  refine pow2S (by omega) (by omega) fun m m1 m2=>⟨_,rfl,by decide,?_⟩
  have eq4:IntKind.i64.wrap (Int.tdiv ((b - a:Nat):Int) 4)=(((b - a) / 4:Nat):Int):=by
    rw [show Int.tdiv ((b - a:Nat):Int) 4=(((b - a) / 4:Nat):Int) from rfl,wrapI (by omega) (by omega)]
  rw [eq4,show IntKind.i64.wrap ((IntKind.i64.wrap ((a:Int)+(IntKind.i64.wrap ((((b - a) / 4:Nat):Int) * 2)))) - 1)=((a+(b - a) / 4 * 2 - 1:Nat):Int) by
      rw [wrapI (n:=(((b - a) / 4:Nat):Int) * 2) (by omega) (by omega),wrapI (n:=(a:Int)+(((b - a) / 4:Nat):Int) * 2) (by omega) (by omega),wrapI (by omega) (by omega)]; omega]
  exact ⟨_,brk_loop hn hab hK ⟨by omega,m2⟩ _ _ f0 h3 _ (Nat.lt_succ_self _) (by omega) (Pm.refl _ _ _) S3.p1⟩
end
def PdqS (s:SV) (n N:Nat):Prop:=∀ (a b:Nat) (f:Nat→Int) (x:Int) (h:Heap) (K:KT) (L:List Asr),b - a<N→a≤b→b≤n→(0<a→∀ k,a≤k→k<b→o.le (f (a - 1)) (f k)) →
  St (Ow 1 s (rw n f)::L) h→(∀ h' g,Pm a b f g→o.Srt a b g→St (Ow 1 s (rw n g)::L) h'→K (.tuple #[]) h')→CallsH P F.qaj [.slice s.1 s.2.1 s.2.2,.int .i64 a,.int .i64 b,.int .i64 x] K h
section
variable {s:SV}{n a0 b0:Nat}{f0:Nat→Int}
variable (hn:n<2305843009213693952) (hb0:b0≤n) (hrec:PdqS s n (b0 - a0)) (hK:∀ h' g,Pm a0 b0 f0 g→o.Srt a0 b0 g→St (Ow 1 s (rw n g)::L) h'→K (.tuple #[]) h')
include hn hb0 hrec in
theorem pdq_j5 {R:OA→Nat→Nat→Int→Int→Int→Bool→Bool→Heap→Prop}{a b c:Nat}{f:Nat→Int}{h:Heap}{x:Int}{t8 t9 q:Bool}
    (hR:∀ (a' b':Nat) (x:Int) (u v:Bool) g h',b' - a'<b - a→a'≤b'→PdqI o a0 b0 f0 a' b' g→St (Ow 1 s (rw n g)::L) h'→R s.1 s.2.1 s.2.2 a' b' x u v h')
    (I:PdqI o a0 b0 f0 a b f) (hab:a+12<b) (hc:a≤c∧c<b) (hq:q=true→0<a∧o.le (f c) (f (a - 1))) (S:St (Ow 1 s (rw n f)::L) h):qaj.j5 K R s.1 s.2.1 s.2.2 a b x t8 t9 ((b - a:Nat):Int) c q h:=by
  unfold qaj.j5
  have:=I.ha
  have:=I.hb
  cases hqq:q with
  | true =>
    obtain ⟨h0,hv⟩:=hq hqq
    refine ifT rfl (pequS (a:=a) (b:=b) (by omega) (by omega) S hc fun h' g m pg hm l1 Sg=>⟨_,rfl,?_⟩)
    refine hR m b x t8 t9 g h' (by omega) (by omega) ((I.move pg).equal h0 hm ?_ l1) Sg
    rw [pg.out (k:=a - 1) (.inl (by omega))]
    exact hv
  | false =>
    refine ifF rfl (partS (a:=a) (b:=b) (by omega) (by omega) S hc fun h' g m d pg hm l1 l2 Sg=>⟨_,_,rfl,?_⟩)
    simp only [bd]
    rw [wp1 (n:=n) (by omega) (by omega)]
    refine ⟨by decide,?_⟩
    have I2:=I.move pg
    cases decide (IntKind.i64.wrap ((m:Int) - (a:Int))<IntKind.i64.wrap ((b:Int) - (m:Int))) with
    | true =>
      refine ifT rfl (hrec a m g x h' _ L (by omega) (by omega) (by omega) (fun h0 k k1 k2=>I2.low h0 k k1 (by omega)) Sg fun h2 e pe se Se=>⟨rfl,?_⟩)
      exact hR (m+1) b x _ d e h2 (by omega) (by omega) (I2.right hm l1 l2 pe se) Se
    | false =>
      refine ifF rfl (hrec (m+1) b g x h' _ L (by omega) (by omega) (by omega) (fun h0 k k1 k2=>l2 k (by omega) k2) Sg fun h2 e pe se Se=>⟨rfl,?_⟩)
      exact hR a m x _ d e h2 (by omega) (by omega) (I2.left hm l1 l2 pe se) Se
include hn hb0 hrec hK in
theorem pdq_j6 {R:OA→Nat→Nat→Int→Int→Int→Bool→Bool→Heap→Prop}{a b c:Nat}{f:Nat→Int}{h:Heap}{x:Int}{t8 t9 q:Bool}
    (hR:∀ (a' b':Nat) (x:Int) (u v:Bool) g h',b' - a'<b - a→a'≤b'→PdqI o a0 b0 f0 a' b' g→St (Ow 1 s (rw n g)::L) h'→R s.1 s.2.1 s.2.2 a' b' x u v h')
    (I:PdqI o a0 b0 f0 a b f) (hab:a+12<b) (hc:a≤c∧c<b) (S:St (Ow 1 s (rw n f)::L) h):qaj.j6 K R s.1 s.2.1 s.2.2 a b x t8 t9 ((b - a:Nat):Int) c q h:=by
  have:=I.ha
  have:=I.hb
  have j4:∀ (g:Nat→Int) (h':Heap),PdqI o a0 b0 f0 a b g→St (Ow 1 s (rw n g)::L) h'→qaj.j4 K R s.1 s.2.1 s.2.2 a b x t8 t9 ((b - a:Nat):Int) c h':=by
    intro g h' I2 S2
    unfold qaj.j4
    by_cases h0:0<a
    · rw [wm1 (n:=n) (by omega) (by omega) (by omega)]
      refine ifT (by simp; omega) (less2T (i:=a - 1) (j:=c) S2 rfl rfl (by omega) (by omega) ?_)
      exact pdq_j5 hn hb0 hrec hR I2 hab hc (fun e=>⟨h0,(by simpa using e:o.lt (g (a - 1)) (g c)=false)⟩) S2
    · exact ifF (by simp; omega) (pdq_j5 hn hb0 hrec hR I2 hab hc (fun e=>by cases e) S2)
  unfold qaj.j6
  cases q with
  | false=>exact ifF rfl (j4 f h I S)
  | true =>
    refine ifT rfl (pinS (a:=a) (b:=b) (by omega) ⟨by omega,by omega⟩ I.low S (fun h' g pg Sg=>⟨_,rfl,ifF rfl (j4 g h' (I.move pg) Sg)⟩) fun h' g pg sg Sg=>⟨_,rfl,ifT rfl (hK h' g (I.move pg).pm (I.fin g pg sg) Sg)⟩)
include hn hb0 hrec hK in
theorem pdq_loop:∀ (fuel a b:Nat) (f:Nat→Int) (h:Heap) (x:Int) (t8 t9:Bool),b - a<fuel→a≤b→PdqI o a0 b0 f0 a b f→St (Ow 1 s (rw n f)::L) h→qaj.L1 K fuel s.1 s.2.1 s.2.2 a b x t8 t9 h
  | 0,_,_,_,_,_,_,_,hf,_,_,_=>absurd hf (Nat.not_lt_zero _)
  | fuel+1,a,b,f,h,x,t8,t9,hf,hab,I,S=>by
    unfold qaj.L1
    have:=I.ha
    have:=I.hb
    simp only [bd]
    rw [show IntKind.i64.wrap ((b:Int) - (a:Int))=((b - a:Nat):Int) by rw [wrapI (by omega) (by omega)]; omega]
    by_cases h12:b - a≤12
    · exact ifT (by simp; omega) (insS (a:=a) (b:=b) S (by omega) (by omega) (by omega) fun h' g pg sg Sg=>⟨rfl,hK h' g (I.move pg).pm (I.fin g pg sg) Sg⟩)
    refine ifF (by simp; omega) ?_
    have j2:∀ (x:Int) (g:Nat→Int) (h':Heap),PdqI o a0 b0 f0 a b g→St (Ow 1 s (rw n g)::L) h'→qaj.j2 K (qaj.L1 K fuel) s.1 s.2.1 s.2.2 a b x t8 t9 ((b - a:Nat):Int) h':=by
      intro x g h' I2 S2
      have j3:∀ (c:Nat) (y:Int) (e:Nat→Int) (h2:Heap),a≤c→c<b→PdqI o a0 b0 f0 a b e→St (Ow 1 s (rw n e)::L) h2→qaj.j3 K (qaj.L1 K fuel) s.1 s.2.1 s.2.2 a b x t8 t9 ((b - a:Nat):Int) c y h2:=by
        intro c y e h2 c1 c2 I3 S3
        unfold qaj.j3
        have j6:=fun q:Bool=>pdq_j6 (K:=K) (L:=L) (R:=qaj.L1 K fuel) (x:=x) (t8:=t8) (t9:=t9) (q:=q) hn hb0 hrec hK (fun a' b' x u v g h' hlt hle I' S'=>pdq_loop fuel a' b' g h' x u v (by omega) hle I' S') I3 (by omega) ⟨c1,c2⟩ S3
        exact ⟨fun _=>⟨fun _=>j6 _,fun _=>j6 _⟩,fun _=>j6 _⟩
      unfold qaj.j2
      refine pivotS (a:=a) (b:=b) S2 (by omega) (by omega) (by omega) fun h3 i y i1 i2 S3=>⟨_,_,rfl,?_⟩
      refine ⟨fun _=>revS (a:=a) (b:=b) S3 (by omega) (by omega) (by omega) fun h4 e pe Se=>⟨rfl,?_⟩,fun _=>j3 i y g h3 i1 i2 I2 S3⟩
      simp only [bd]
      rw [wm1 (n:=n) (by omega) (by omega) (by omega),show IntKind.i64.wrap ((i:Int) - (a:Int))=((i - a:Nat):Int) by rw [wrapI (by omega) (by omega)]; omega,show IntKind.i64.wrap (((b - 1:Nat):Int) - ((i - a:Nat):Int))=((b - 1 - (i - a):Nat):Int) by rw [wrapI (by omega) (by omega)]; omega]
      exact j3 _ 1 e h4 (by omega) (by omega) (I2.move pe) Se
    refine ⟨fun _=>heapS (a:=a) (b:=b) S (by omega) (by omega) (by omega) fun h' g pg sg Sg=>⟨rfl,hK h' g (I.move pg).pm (I.fin g pg sg) Sg⟩,fun _=>?_⟩
    cases t8 with
    | true=>exact ifF rfl (j2 x f h I S)
    | false=>exact ifT rfl (brkS (a:=a) (b:=b) (by omega) ⟨by omega,by omega⟩ S fun h' g pg Sg=>⟨rfl,j2 _ g h' (I.move pg) Sg⟩)
end
theorem pdqS {s:SV}{n:Nat} (hn:n<2305843009213693952):∀ N,PdqS s n N
  | 0=>fun a b f x h K L hl=>absurd hl (Nat.not_lt_zero _)
  | N+1=>by
    intro a b f x h K L hl hab hb low S hK
    refine qaj.ok ?_
    unfold qaj.p0
    have hrec:PdqS s n (b - a):=fun a' b' f' x' h' K' L' hl'=>pdqS hn N a' b' f' x' h' K' L' (by omega)
    exact ⟨_,pdq_loop hn hb hrec hK _ a b f h x true true (Nat.lt_succ_self _) hab (PdqI.start low) S⟩
theorem sortS {s:SV}{xs:List Int} (S:St (Ow 1 s (xs.map fun x=>.int .u64 x)::L) h) (hn:xs.length<2305843009213693952) (d:Int)
    (hK:∀ h' (ys:List Int),ys.Perm xs→ys.Pairwise o.le→St (Ow 1 s (ys.map fun x=>.int .u64 x)::L) h'→K (.tuple #[]) h') :
    CallsH P F.qcn [.slice s.1 s.2.1 s.2.2] K h:=by
  refine qcn.ok ?_
  unfold qcn.p0
  have em:∀ f:Nat→Int,rw xs.length f=(rowF xs.length f).map fun x=>.int .u64 x:=fun f=>by unfold rw rowF; rw [List.map_map]; rfl
  have S0:St (Ow 1 s (rw xs.length fun i=>xs.getD i d)::L) h:=by rw [em,rowF_of]; exact S
  have el:s.2.1=xs.length:=rlen S0
  obtain ⟨p,l,c⟩:=s
  subst el
  simp only [bd]
  rw [show IntKind.u64.wrap ((xs.length:Nat):Int)=((xs.length:Nat):Int) by rw [IntKind.wrap_u64]; omega]
  refine lenS (by omega) ⟨_,rfl,?_⟩
  refine pdqS (s:=(p,xs.length,c)) hn _ 0 xs.length _ _ h _ L (Nat.lt_succ_self _) (Nat.zero_le _) (Nat.le_refl _) (fun h0=>by omega) S0 fun h' g pg sg Sg=>⟨rfl,?_⟩
  refine hK h' (rowF xs.length g) ?_ (o.srt_row sg) (by rw [← em]; exact Sg)
  have:=pg.perm
  rwa [rowF_of] at this
end
end Go.Proofs.YtofpbcakppjgcaaGreatDoor.Pr.sort_uint64
end
