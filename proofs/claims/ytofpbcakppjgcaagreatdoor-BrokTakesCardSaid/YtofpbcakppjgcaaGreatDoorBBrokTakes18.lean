/- brokTakes_holds: all that the theorem needs, in a few texts (bundle.py; made of the texts that NOTES.md names). -/
import Derived.Below
import Derived.KernelRfl
import Derived.Laws.Append
import Derived.Laws.Bits64
import Derived.Laws.BitsAllLaws
import Derived.Laws.BitsLemmas
import Derived.Laws.IdiomStrings
import Derived.Laws.Sem
import Derived.Laws.Strings
import Derived.Laws.StructEq
import Derived.Lib.ItoaNum
import Derived.LoopN
import Derived.MapKept
import Derived.Orders
import Derived.Shelf.Lay
import Derived.Shelf.SlIter.Collect
import Derived.Shelf.Small.Bits
import Derived.Sort.KeysCollected
import Derived.Test.YtofpbcakppjgcaaGreatDoorChecked
import Derived.WideLaws
import Derived.Test.YtofpbcakppjgcaaGreatDoorBBrokTakes2
import Derived.Test.YtofpbcakppjgcaaGreatDoorBBrokTakes3
import Derived.Test.YtofpbcakppjgcaaGreatDoorBBrokTakes4
import Derived.Test.YtofpbcakppjgcaaGreatDoorBBrokTakes5
import Derived.Test.YtofpbcakppjgcaaGreatDoorBBrokTakes8
import Derived.Test.YtofpbcakppjgcaaGreatDoorBBrokTakes9
import Derived.Test.YtofpbcakppjgcaaGreatDoorBBrokTakes11
import Derived.Test.YtofpbcakppjgcaaGreatDoorBBrokTakes13
import Derived.Test.YtofpbcakppjgcaaGreatDoorBBrokTakes15
section
set_option linter.unusedVariables false
set_option linter.unusedSimpArgs false
namespace Go.Proofs.YtofpbcakppjgcaaGreatDoor.Pr
open Go Go.Lift Go.Proofs
theorem sl_str:SlT P T.sl_string T.string 1 16 [.string (mkS [])]:=slT (by kernel_rfl) (by kernel_rfl)
theorem u_sls:P.underlying T.sl_string=some (.slice T.string):=by kernel_rfl
abbrev ddP (x:Nat→List UInt8) (j:Nat):Bool:=decide (j=0) || !(x j==x (j - 1))
abbrev ddL (xs:List (List UInt8)):List (List UInt8):=rF xs.length (ddP fun i=>xs.getD i []) fun i=>xs.getD i []
theorem ddP_neg {x:Nat→List UInt8}{j:Nat} (h:0<j) (e:x j=x (j - 1)):ddP x j=false:=by
  unfold ddP
  rw [beq_iff_eq.2 e,decide_eq_false (by omega)]; rfl
theorem ddP_pos {x:Nat→List UInt8}{j:Nat} (e:x j≠x (j - 1)):ddP x j=true:=by
  unfold ddP
  rw [beq_eq_false_iff_ne.2 e]; simp
theorem ddL_up {xs:List (List UInt8)} (hs:xs.Pairwise sort_string.o.le):(ddL xs).Pairwise fun a b=>sort_string.o.lt a b=true:=by
  unfold ddL rF
  rw [List.pairwise_map]
  have:((List.range xs.length).filter (ddP fun i=>xs.getD i [])).Pairwise fun a b=>a<b:=List.pairwise_lt_range.sublist List.filter_sublist
  refine this.imp_of_mem fun {a b} ha hb hab=>?_
  obtain ⟨h1,h2⟩:=List.mem_filter.1 hb
  have hb':=List.mem_range.1 h1
  have ge:∀ i j,i≤j→j<xs.length→sort_string.o.le (xs.getD i []) (xs.getD j []):=fun i j hij hj=>by
    rw [List.getD_eq_getElem?_getD,List.getD_eq_getElem?_getD,List.getElem?_eq_getElem hj,List.getElem?_eq_getElem (show i<xs.length by omega)]
    rcases Nat.lt_or_ge i j with h | h
    · exact List.pairwise_iff_getElem.1 hs i j (by omega) hj h
    · have:i=j:=by omega
      subst this
      exact sort_string.o.le_refl _
  cases hl:sort_string.o.lt (xs.getD a []) (xs.getD b []) with
  | true=>rfl
  | false =>
    have e1:=ge a (b - 1) (by omega) (by omega)
    have e2:=ge (b - 1) b (by omega) hb'
    have e3:sort_string.o.le (xs.getD b []) (xs.getD (b - 1) []):=sort_string.o.le_trans hl e1
    have e4:=sort_string.le_anti _ _ e2 e3
    simp only [ddP,Bool.or_eq_true,decide_eq_true_eq,Bool.not_eq_true',beq_eq_false_iff_ne] at h2
    rcases h2 with h2 | h2
    · omega
    · exact absurd e4.symm h2
section
variable {K:KT}{L:List Asr}{h:Heap}
theorem getD_some {α:Type}{xs:List α}{i:Nat} (h:i<xs.length) (d:α):xs[i]? = some (xs.getD i d):=by
  rw [List.getD_eq_getElem?_getD,List.getElem?_eq_getElem h]; rfl
theorem compact_inner {t:SV}{xs:List (List UInt8)}{k0:Nat} (R:OA→Nat→Nat→Int→Heap→Prop) (hl:xs.length<1099511627776) (hk0:0<k0∧k0<xs.length)
    (hK:∀ h' o,St (Ow 1 o ((ddL xs).map encS)::L) h'→K (.slice o.1 o.2.1 o.2.2) h') :
    ∀ (fuel j k:Nat) (ys:List (List UInt8)) (h:Heap),xs.length - j<fuel→j≤xs.length→k0<j→k<j→ys.length=xs.length→ys.take k=rF j (ddP fun i=>xs.getD i []) (fun i=>xs.getD i [])→ys.drop (j - 1)=xs.drop (j - 1)→St (Ow 1 t (ys.map encS)::L) h →
      qar.L3 K R fuel t.1 t.2.1 t.2.2 k (slA t.1 k0 t.2.2 1) (t.2.1 - k0) (t.2.2 - k0) ((j - k0:Nat):Int) h
  | 0,_,_,_,_,hf,_,_,_,_,_,_,_=>absurd hf (Nat.not_lt_zero _)
  | fuel+1,j,k,ys,h,hf,hj,hk,hkj,hy,e1,e2,S=>by
    have el:t.2.1=xs.length:=by have:=S.ow.1; simp [hy] at this; omega
    have hc:t.2.1≤t.2.2:=S.ow.2.1
    unfold qar.L3
    have tl:Sl 1 h (slA t.1 k0 t.2.2 1) (t.2.1 - k0) ((ys.drop k0).map encS):=by
      have:=S.sl.drop hc (n:=k0) (by omega)
      rw [List.map_drop]; exact this
    by_cases hlt:j<xs.length
    · have rd:∀ i,j - 1≤i→i<xs.length→((ys.drop k0).map encS)[i - k0]? = some (encS (xs.getD i [])):=fun i hi hix=>by
        rw [List.getElem?_map,List.getElem?_drop,show k0+(i - k0)=i by omega]
        have:=congrArg (fun l=>l[i - (j - 1)]?) e2
        simp only [List.getElem?_drop] at this
        rw [show j - 1+(i - (j - 1))=i by omega] at this
        rw [this,getD_some hix []]; rfl
      refine ifT (by simp; omega) (ixV (n:=j - k0) (w:=encS (xs.getD j [])) tl rfl (rd j (by omega) hlt) fun p ep cp=>?_)
      rw [show IntKind.i64.wrap (((j - k0:Nat):Int) - 1)=((j - 1 - k0:Nat):Int) from wrapS (by omega) (by omega)]
      refine ixV (n:=j - 1 - k0) (w:=encS (xs.getD (j - 1) [])) tl rfl (rd (j - 1) (by omega) (by omega)) fun p2 ep2 cp2=>⟨_,cp,_,cp2,?_⟩
      have ed:ys.drop j=xs.drop j:=by
        have:=congrArg (List.drop 1) e2
        rw [List.drop_drop,List.drop_drop,show j - 1+1=j by omega] at this
        exact this
      have next:∀ (k':Nat) (ys':List (List UInt8)) (h':Heap),k'<j+1→ys'.length=xs.length→ys'.take k'=rF (j+1) (ddP fun i=>xs.getD i []) (fun i=>xs.getD i [])→ys'.drop j=xs.drop j→St (Ow 1 t (ys'.map encS)::L) h' →
          qar.j4 K R (qar.L3 K R fuel) t.1 t.2.1 t.2.2 k' (slA t.1 k0 t.2.2 1) (t.2.1 - k0) (t.2.2 - k0) ((j - k0:Nat):Int) h':=fun k' ys' h' a1 a2 a3 a4 S'=>by
        unfold qar.j4
        unfold bd
        rw [show IntKind.i64.wrap (((j - k0:Nat):Int)+1)=((j+1 - k0:Nat):Int) from wrapS (by omega) (by omega)]
        exact compact_inner R hl hk0 hK fuel (j+1) k' ys' h' (by omega) (by omega) (by omega) a1 a2 a3 (by rw [Nat.add_sub_cancel]; exact a4) S'
      have st:=rF_succ j (ddP fun i=>xs.getD i []) (fun i=>xs.getD i [])
      by_cases e:xs.getD j []=xs.getD (j - 1) []
      · refine ifF (by rw [beq_iff_eq.2 e]; rfl) (next k ys h (by omega) hy ?_ ed S)
        rw [st,if_neg (by rw [ddP_neg (x:=fun i=>xs.getD i []) (by omega) e]; simp),List.append_nil,e1]
      · refine ifT (by simpa using e) (ixV (n:=j - k0) (w:=encS (xs.getD j [])) tl rfl (rd j (by omega) hlt) fun p3 ep3 cp3=>⟨_,cp3,?_⟩)
        refine S.owSet (i:=(k:Int)) (n:=k) rfl (by rw [List.length_map]; omega) rfl fun h2 S2=>?_
        unfold bd
        rw [show IntKind.i64.wrap ((k:Int)+1)=((k+1:Nat):Int) from wrapS (by omega) (by omega)]
        rw [← List.map_set (f:=encS)] at S2
        refine next (k+1) (ys.set k (xs.getD j [])) h2 (by omega) (by simp [hy]) ?_ (by rw [List.drop_set_of_lt (by omega)]; exact ed) S2
        rw [st,if_pos (ddP_pos (x:=fun i=>xs.getD i []) e),← e1,List.take_add_one,List.take_set_of_le (Nat.le_refl _)]
        simp [show k<ys.length by omega]
    · have:j=xs.length:=by omega
      subst this
      refine ifF (by simp; omega) ?_
      unfold qar.j2
      refine ⟨⟨by omega,by omega⟩,?_⟩
      rw [Int.toNat_natCast]
      refine S.clr sl_str rfl (by simp [one]) (by decide) (n:=k) (by omega) fun h2 S2=>?_
      unfold bd
      rw [slA_z]
      refine ⟨⟨by omega,by omega⟩,hK h2 (t.1,k,t.2.2) ?_⟩
      rw [Nat.mul_one,← List.map_take,e1] at S2
      exact S2
theorem compact_loop {t:SV}{xs:List (List UInt8)} (hl:xs.length<1099511627776) (hK:∀ h' o,St (Ow 1 o ((ddL xs).map encS)::L) h'→K (.slice o.1 o.2.1 o.2.2) h') (S:St (Ow 1 t (xs.map encS)::L) h) :
    ∀ (fuel k:Nat),xs.length - k<fuel→0<k→k≤xs.length→xs.take k=rF k (ddP fun i=>xs.getD i []) (fun i=>xs.getD i [])→qar.L1 K fuel t.1 t.2.1 t.2.2 k h
  | 0,_,hf,_,_,_=>absurd hf (Nat.not_lt_zero _)
  | fuel+1,k,hf,h0,hk,e1=>by
    have el:t.2.1=xs.length:=by have:=S.ow.1; simp at this; omega
    unfold qar.L1
    by_cases hlt:k<xs.length
    · have rd:∀ i,i<xs.length→(xs.map encS)[i]? = some (encS (xs.getD i [])):=fun i hi=>by rw [List.getElem?_map,getD_some hi []]; rfl
      refine ifT (by simp; omega) (ixV (n:=k) (w:=encS (xs.getD k [])) S.sl rfl (rd k hlt) fun p ep cp=>?_)
      rw [show IntKind.i64.wrap ((k:Int) - 1)=((k - 1:Nat):Int) from wrapS (by omega) (by omega)]
      refine ixV (n:=k - 1) (w:=encS (xs.getD (k - 1) [])) S.sl rfl (rd _ (by omega)) fun p2 ep2 cp2=>⟨_,cp,_,cp2,?_⟩
      have st:=rF_succ k (ddP fun i=>xs.getD i []) (fun i=>xs.getD i [])
      by_cases e:xs.getD k []=xs.getD (k - 1) []
      · refine ifT (beq_iff_eq.2 e) ⟨⟨by omega,by omega⟩,?_⟩
        unfold bd
        rw [Int.toNat_natCast]
        have:=compact_inner (t:=t) (qar.L1 K fuel) hl ⟨h0,hlt⟩ hK (xs.length+1) (k+1) k xs h (by omega) (by omega) (by omega) (by omega) rfl (by rw [st,if_neg (by rw [ddP_neg (x:=fun i=>xs.getD i []) (by omega) e]; simp),List.append_nil,e1]) rfl S
        rw [show ((k+1 - k:Nat):Int)=1 by omega] at this
        exact ⟨_,this⟩
      · refine ifF (by simpa using e) ?_
        unfold bd
        rw [show IntKind.i64.wrap ((k:Int)+1)=((k+1:Nat):Int) from wrapS (by omega) (by omega)]
        refine compact_loop hl hK S fuel (k+1) (by omega) (by omega) (by omega) ?_
        rw [st,if_pos (ddP_pos (x:=fun i=>xs.getD i []) e),List.take_add_one,getD_some hlt [],e1]; rfl
    · have:k=xs.length:=by omega
      subst this
      refine ifF (by simp; omega) (hK h t ?_)
      rw [List.take_of_length_le (Nat.le_refl _)] at e1
      rw [show ddL xs=xs from e1.symm]
      exact S
theorem compactS {t:SV}{xs:List (List UInt8)} (hl:xs.length<1099511627776) (hK:∀ h' o,St (Ow 1 o ((ddL xs).map encS)::L) h'→K (.slice o.1 o.2.1 o.2.2) h') (S:St (Ow 1 t (xs.map encS)::L) h) :
    CallsH P F.qar [.slice t.1 t.2.1 t.2.2] K h:=by
  have el:t.2.1=xs.length:=by have:=S.ow.1; simp at this; omega
  refine qar.ok ?_
  unfold qar.p0
  by_cases h2:xs.length<2
  · refine ifT (by simp; omega) (hK h t ?_)
    have:ddL xs=xs:=by
      match xs,h2 with
      | [],_=>rfl
      | [x],_=>rfl
    rw [this]
    exact S
  · refine ifF (by simp; omega) ⟨xs.length+1,?_⟩
    have:=compact_loop hl hK S (xs.length+1) 1 (by omega) (by omega) (by omega) (by
      rw [show rF 1 (ddP fun i=>xs.getD i []) (fun i=>xs.getD i [])=[xs.getD 0 []] from rfl,List.take_add_one,List.take_zero,getD_some (by omega) []]; rfl)
    exact this
end
end Go.Proofs.YtofpbcakppjgcaaGreatDoor.Pr
end
