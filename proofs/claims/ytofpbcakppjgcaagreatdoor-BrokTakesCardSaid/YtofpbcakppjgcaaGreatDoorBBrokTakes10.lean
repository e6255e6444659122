/- brokTakes_holds: all that the theorem needs, in a few texts (bundle.py; made of the texts that NOTES.md names). -/
import Derived.Below
import Derived.KernelRfl
import Derived.Laws.Append
import Derived.Laws.Bits64
import Derived.Laws.BitsAllLaws
import Derived.Laws.BitsLemmas
import Derived.Laws.IdiomStrings
import Derived.Laws.Sem
import Derived.Laws.Strings
import Derived.LoopN
import Derived.Orders
import Derived.Test.YtofpbcakppjgcaaGreatDoorChecked
import Derived.Test.YtofpbcakppjgcaaGreatDoorBBrokTakes2
import Derived.Test.YtofpbcakppjgcaaGreatDoorBBrokTakes3
import Derived.Test.YtofpbcakppjgcaaGreatDoorBBrokTakes4
import Derived.Test.YtofpbcakppjgcaaGreatDoorBBrokTakes5
import Derived.Test.YtofpbcakppjgcaaGreatDoorBBrokTakes8
section
set_option linter.unusedVariables false
namespace Go.Proofs.YtofpbcakppjgcaaGreatDoor.Pr
open Go Go.Lift Go.Proofs
abbrev Oct:=List UInt8
theorem sl_uint8:SlT P T.sl_uint8 T.uint8 1 1 [.int .u8 0]:=slT (by kernel_rfl) (by kernel_rfl)
theorem u_sl:P.underlying T.sl_uint8=some (.slice T.uint8):=by kernel_rfl
theorem u_str:P.underlying T.string=some .string:=by kernel_rfl
theorem app {b:Nat}{h:Heap}{p:OA}{l c n:Nat}{bs ws:Oct}{xv:Value} (o:Own 1 h p l c (u8s bs)) (f:Fr b p) (hbh:b≤h.size) (s:Src P 1 h xv n (u8s ws)) (hl:bs.length+ws.length<4398046511104) {K:KT}
    (hK:∀ p' c' h',Own 1 h' p' (l+n) c' (u8s (bs++ws))→Fr b p'→Keeps (fun i=>b≤i) h h'→K (.slice p' (l+n) c') h') :
    SemH P (Builtin.append_ #[T.sl_uint8,T.sl_uint8] T.sl_uint8 #[.slice p l c,xv]) K h:=by
  have h1:=o.1
  have h2:=s.1
  simp only [u8s_length,Nat.mul_one] at h1 h2
  refine append_fr sl_uint8 rfl u_sl (fun k e=>by cases e) o f hbh s (by omega) (by omega) fun p' c' h' o' f' k'=>hK p' c' h' ?_ f' k'
  have e:u8s (bs++ws)=u8s bs++u8s ws:=by simp [u8s]
  rw [e]
  exact o'
theorem apps {b:Nat}{h:Heap}{p:OA}{l c:Nat}{bs ws:Oct} (o:Own 1 h p l c (u8s bs)) (f:Fr b p) (hbh:b≤h.size) (hl:bs.length+ws.length<4398046511104) {K:KT}
    (hK:∀ p' l' c' h',Own 1 h' p' l' c' (u8s (bs++ws))→Fr b p'→Keeps (fun i=>b≤i) h h'→K (.slice p' l' c') h') :
    SemH P (Builtin.append_ #[T.sl_uint8,T.string] T.sl_uint8 #[.slice p l c,.string (mkS ws)]) K h:=by
  have h1:=o.1
  simp only [u8s_length,Nat.mul_one] at h1
  refine append_fr sl_uint8 rfl u_str (fun k e=>by cases e) o f hbh (Src.str ws) (by omega) (by omega) fun p' c' h' o' f' k'=>hK p' _ c' h' ?_ f' k'
  have e:u8s (bs++ws)=u8s bs++u8s ws:=by simp [u8s]
  rw [e]
  exact o'
theorem Sl.len {h:Heap}{p:OA}{l:Nat}{bs:Oct} (o:Sl 1 h p l (u8s bs)):l=bs.length:=by
  have:=o.1
  simp only [u8s_length,Nat.mul_one] at this
  exact this.symm
theorem Clone.spec {K:KT}{p:OA}{l c:Nat}{bs:Oct}{h:Heap} (s:Sl 1 h p l (u8s bs)) (hb:bs.length<2199023255552)
    (hK:∀ p' l' c' h',Own 1 h' p' l' c' (u8s bs)→Fr h.size p'→Kept h h'→K (.slice p' l' c') h'):CallsH P F.qcv [.slice p l c] K h:=by
  refine qcv.ok ?_
  unfold qcv.p0
  cases p with
  | none =>
    refine ifT rfl ?_
    have e:=s.2
    simp only [u8s,List.map_eq_nil_iff] at e
    subst e
    exact hK _ _ _ _ (Own.nil 1 h) (Fr.none _) (Kept.refl h)
  | some a =>
    refine ifF rfl ?_
    simp only [bd]
    have o0:Own 1 (al h #[] T.uint8) (some (top h)) 0 0 (u8s []):=⟨rfl,Nat.le_refl _,[],rfl,Mem.new h [] T.uint8⟩
    have s':=s.kept (Keeps.al _ h #[] T.uint8)
    refine app o0 (Fr.top (Nat.le_refl h.size)) (by rw [al_size]; omega) (Src.slice s' (u8s_one bs)) (by simp; omega) fun p' c' h' o' f' k'=>⟨_,_,_,rfl,?_⟩
    exact hK _ _ _ _ o' f' (Kept.since (Keeps.al _ h _ _) k')
theorem width.spec {K:KT}{n:Int}{h:Heap} (h1:1≤n) (h8:n≤8) (hK:K (.int .i64 n) h):CallsH P F.qdy [.int .i64 n] K h:=by
  refine qdy.ok ?_
  unfold qdy.p0
  have e:(if (8:Int)<(if (1:Int) > n then 1 else n) then 8 else (if (1:Int) > n then 1 else n))=n:=by
    rw [if_neg (by omega),if_neg (by omega)]
  simp only [bd,e]
  exact hK
theorem shift_amount {k:Nat} (hk:k<8):IntKind.u64.wrap (shlI .i64 (k:Int) 3)=((8 * k:Nat):Int):=by
  have:(min (3:Int).toNat IntKind.i64.bits)=3:=rfl
  simp only [shlI,this]
  rw [wrapI (by omega) (by omega),IntKind.wrap_u64]
  omega
theorem Int_loop {K:KT}{v b0:Nat}{h0:Heap}{bs:Oct} (hb0:b0=h0.size) :
    ∀ (m:Nat) (p:OA) (l c:Nat) (cs:Oct) (h:Heap),m≤8→cs.length+m<3298534883328→Own 1 h p l c (u8s cs)→Fr b0 p→Kept h0 h →
      (∀ p' l' c' h',Own 1 h' p' l' c' (u8s (cs++octsN m v))→Fr b0 p'→Kept h0 h'→K (.slice p' l' c') h')→qdj.L1 K (m+1) p l c v ((m:Int) - 1) h
  | 0,p,l,c,cs,h,hm,hc,o,f,k,hK=>by
    unfold qdj.L1
    refine ifF (by simp) (hK _ _ _ _ (by simpa [octsN] using o) f k)
  | m+1,p,l,c,cs,h,hm,hc,o,f,k,hK=>by
    unfold qdj.L1
    have e:(((m+1:Nat):Int) - 1)=(m:Int):=by omega
    rw [e]
    refine ifT (by simp) ⟨by omega,by rw [shift_amount (by omega)]; omega,?_⟩
    simp only [bd]
    rw [shift_amount (by omega),oct_wrap (by omega)]
    have s:Sl 1 (al h #[.int .u8 ((octN v m).toNat:Int)] T.uint8) (some (top h)) 1 (u8s [octN v m]):=⟨rfl,(Mem.new h (u8s [octN v m]) T.uint8).1⟩
    have o':=o.kept (Keeps.al _ h #[.int .u8 ((octN v m).toNat:Int)] T.uint8)
    have hbs:b0≤(al h #[.int .u8 ((octN v m).toNat:Int)] T.uint8).size:=by rw [al_size]; have:=k.size; omega
    refine app o' f hbs (Src.slice s (u8s_one _)) (by simp; omega) fun p' c' h' o2 f2 k2=>⟨_,_,_,rfl,?_⟩
    have ew:IntKind.i64.wrap ((m:Int) - 1)=(m:Int) - 1:=wrapI (by omega) (by omega)
    rw [ew]
    subst hb0
    refine Int_loop rfl (bs:=bs) m p' (l+1) c' (cs++[octN v m]) h' (by omega) (by simp; omega) o2 f2 (Kept.since (k.trans (Keeps.al _ h _ _)) k2) fun p3 l3 c3 h3 o3 f3 k3=>hK p3 l3 c3 h3 ?_ f3 k3
    simpa [octsN] using o3
theorem Int.spec {K:KT}{p:OA}{l c n v:Nat}{bs:Oct}{h:Heap} (s:Sl 1 h p l (u8s bs)) (hb:bs.length<1099511627776) (h1:1≤n) (h8:n≤8)
    (hK:∀ p' l' c' h',Own 1 h' p' l' c' (u8s (bs++octsN n v))→Fr h.size p'→Kept h h'→K (.slice p' l' c') h'):CallsH P F.qdj [.slice p l c,.int .i64 n,.int .u64 v] K h:=by
  refine qdj.ok ?_
  unfold qdj.p0
  refine Clone.spec s (by omega) fun p' l' c' h' o f k=>⟨_,_,_,rfl,?_⟩
  refine width.spec (by omega) (by omega) ⟨_,rfl,?_⟩
  simp only [bd]
  have ew:IntKind.i64.wrap ((n:Int) - 1)=(n:Int) - 1:=wrapI (by omega) (by omega)
  rw [ew]
  exact ⟨n+1,Int_loop rfl (bs:=bs) n p' l' c' bs h' h8 (by omega) o f k hK⟩
theorem wrap_len {n:Nat} (h:n<18446744073709551616):IntKind.u64.wrap (n:Int)=(n:Int):=by rw [IntKind.wrap_u64]; omega
theorem Short.spec {K:KT}{p:OA}{l c:Nat}{bs cs:Oct}{h:Heap} (s:Sl 1 h p l (u8s bs)) (hb:bs.length<1099511627776)
    (hK:∀ p' l' c' h',Own 1 h' p' l' c' (u8s (if cs.length > 255 then bs else bs++octsN 1 cs.length++cs))→Fr h.size p'→Kept h h'→K (.tuple #[.slice p' l' c',.bool (decide (cs.length≤255))]) h') :
    CallsH P F.qdx [.slice p l c,.string (mkS cs)] K h:=by
  refine qdx.ok ?_
  unfold qdx.p0
  by_cases hl:cs.length > 255
  · refine ifT (by simp; omega) ?_
    refine Clone.spec s (by omega) fun p' l' c' h' o f k=>⟨_,_,_,rfl,?_⟩
    have:=hK p' l' c' h' (by rw [if_pos hl]; exact o) f k
    rw [decide_eq_false (by omega)] at this
    exact this
  · refine ifF (by simp; omega) ?_
    rw [wrap_len (by omega)]
    refine Int.spec (n:=1) s hb (by omega) (by omega) fun p' l' c' h' o f k=>⟨_,_,_,rfl,?_⟩
    refine apps o f k.size (by simp [octsN_length]; omega) fun p2 l2 c2 h2 o2 f2 k2=>⟨_,_,_,rfl,?_⟩
    have:=hK p2 l2 c2 h2 (by rw [if_neg hl]; exact o2) f2 (Kept.since k k2)
    rw [decide_eq_true (by omega)] at this
    exact this
abbrev RS:=Oct × Bool
def Rd (b0:Nat) (h:Heap) (r:Addr) (s:RS):Prop :=
  s.1.length<1099511627776∧b0≤r.block∧∃ (p:OA) (l c:Nat),Mem h r [.slice p l c,.bool s.2]∧Sl 1 h p l (u8s s.1)∧l≤c∧∀ a,p=some a→s.1≠[]→a.block<b0
end Go.Proofs.YtofpbcakppjgcaaGreatDoor.Pr
end
