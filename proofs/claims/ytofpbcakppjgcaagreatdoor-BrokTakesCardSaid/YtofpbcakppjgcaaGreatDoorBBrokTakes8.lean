/- brokTakes_holds: all that the theorem needs, in a few texts (bundle.py; made of the texts that NOTES.md names). -/
import Derived.Below
import Derived.Laws.Append
import Derived.Laws.Bits64
import Derived.Laws.BitsAllLaws
import Derived.Laws.BitsLemmas
import Derived.Laws.IdiomStrings
import Derived.Laws.Sem
import Derived.Laws.Strings
import Derived.LoopN
import Derived.Orders
import Derived.Test.YtofpbcakppjgcaaGreatDoorBBrokTakes2
import Derived.Test.YtofpbcakppjgcaaGreatDoorBBrokTakes3
import Derived.Test.YtofpbcakppjgcaaGreatDoorBBrokTakes5
section
set_option linter.unusedSimpArgs false
namespace Go.Lift
theorem str_ok {P:Program}{src dst e:TypeId} (hs:P.underlying src=some (.slice e)) (he:P.underlying e=some (.int .u8)) (hd:P.underlying dst=some .string)
    {h:Heap}{p:Option Addr}{l c:Nat}{bs:List UInt8} (s:Sl 1 h p l (u8s bs)) {K:Value→Heap→Prop} (hK:K (.string (mkS bs)) h):SemH P (Go.convert src dst (.slice p l c)) K h:=by
  intro w hw
  have hl:bs.length=l:=by have:=s.1; simpa [u8s] using this
  cases p with
  | none =>
    have e0:=s.2
    simp only [u8s,List.map_eq_nil_iff] at e0
    subst e0
    refine ⟨.string (mkS []),w,?_,by rw [hw]; exact hK,Rest.refl w⟩
    rw [run_convert_bytes_string w src dst e none l c hs he hd]
    simp [Conv.bytesToString]
    rfl
  | some a =>
    subst hl
    refine ⟨.string (mkS bs),w,run_convert_bytes_back w src dst e a c bs hs he hd fun j hj=>?_,by rw [hw]; exact hK,Rest.refl w⟩
    rw [cell_eq,hw]
    refine At.get s.2 ?_
    simp [u8s,hj]
def octN (v k:Nat):UInt8:=UInt8.ofNat (v / 256 ^ k)
theorem oct_wrap {v k:Nat} (hk:k<8):IntKind.u8.wrap (shrI .u64 (v:Int) ((8 * k:Nat):Int))=((octN v k).toNat:Int):=by
  simp only [shrI,IntKind.bits]
  have hm:min ((8 * k:Nat):Int).toNat 64=8 * k:=by rw [Int.toNat_natCast]; omega
  rw [hm,IntKind.wrap_u8']
  have hp:(2:Int) ^ (8 * k)=((256 ^ k:Nat):Int):=by
    have:(256:Nat) ^ k=2 ^ (8 * k):=by rw [Nat.pow_mul]
    rw [this,Int.natCast_pow]
    rfl
  rw [hp,Int.fdiv_eq_ediv_of_nonneg _ (Int.natCast_nonneg _),← Int.natCast_ediv]
  simp [octN]
def octsN:Nat→Nat→List UInt8
  | 0,_=>[]
  | n+1,v=>octN v n::octsN n v
theorem octsN_length:∀ n v,(octsN n v).length=n
  | 0,_=>rfl
  | n+1,v=>by simp [octsN,octsN_length n v]
theorem Kept.since {h0 h h':Heap} (k:Kept h0 h) (k2:Keeps (fun i=>h0.size≤i) h h'):Kept h0 h':=k.trans' k2 fun _ hi hs=>absurd hs (Nat.not_le.2 hi)
theorem Sl.drop {h:Heap}{p:Option Addr}{l c:Nat}{vs:List Value} (m:Sl 1 h p l vs) (hc:l≤c) {n:Nat} (hn:n≤l):Sl 1 h (slA p n c 1) (l - n) (vs.drop n):=by
  have hl:=m.1
  refine ⟨by simp; omega,?_⟩
  unfold slA
  by_cases e:c=n
  · rw [if_pos e]
    have:vs.drop n=[]:=List.drop_eq_nil_of_le (by omega)
    rw [this]
    cases p with
    | none=>rfl
    | some a=>exact At.nil _ _
  · rw [if_neg e]
    cases p with
    | none=>have e:=m.2; simp only at e ⊢; subst e; simp
    | some a=>rw [Nat.mul_one]; exact At.drop m.2 n
theorem append_fr {P:Program}{t tx ty e:TypeId}{d:TypeDesc}{sz by':Nat}{z:List Value} (T:SlT P t e sz by' z) (hz:z.length=sz) (htx:P.underlying tx=some d) (hd:∀ k,d≠.int k)
    {b:Nat}{h:Heap}{p:Option Addr}{l c n:Nat}{vs ws:List Value}{xv:Value} (o:Own sz h p l c vs) (f:Fr b p) (hbh:b≤h.size) (s:Src P sz h xv n ws)
    (hb:(l+n) * by'≤140737488355328) (h63:l+n≤9223372036854775807) {K:Value→Heap→Prop}
    (hK:∀ p' c' h',Own sz h' p' (l+n) c' (vs++ws)→Fr b p'→Keeps (fun i=>b≤i) h h'→K (.slice p' (l+n) c') h') :
    SemH P (Builtin.append_ #[t,tx] ty #[.slice p l c,xv]) K h :=
  append_ok T hz htx hd o s hb h63 fun p' c' h' o' hp' k=>hK p' c' h' o' (by rcases hp' with rfl | rfl; exact f; exact Fr.top hbh) (k.mono fun i _ ⟨a,e1,e2⟩=>e2 ▸ f a e1)
end Go.Lift
end
section
namespace Go.Lift
theorem and_i64 (a:Int) (m:Nat) (hm:m<9223372036854775808):bitsI .and .i64 a (m:Int)=(((a % 18446744073709551616).toNat &&& m:Nat):Int):=by
  have e:bitsI .and .i64 a (m:Int)=IntKind.i64.wrap (((BitVec.ofInt 64 a &&& BitVec.ofInt 64 (m:Int):BitVec 64).toNat:Nat):Int):=rfl
  have o2:BitVec.ofInt 64 (m:Int)=BitVec.ofNat 64 m:=BitVec.ofInt_natCast ..
  have hl:((a % 18446744073709551616).toNat &&& m)≤m:=Nat.and_le_right
  have h64:(2:Nat) ^ 64=18446744073709551616:=by decide
  rw [e,o2,BitVec.toNat_and,BitVec.toNat_ofNat,BitVec.toNat_ofInt,h64,Nat.mod_eq_of_lt (by omega:m<18446744073709551616)]
  exact wrapI (by omega) (by have:((((18446744073709551616:Nat):Int)))=18446744073709551616:=rfl; rw [this]; omega)
theorem mask_i64 (a:Int) (k:Nat) (hk:k<63):bitsI .and .i64 a ((2 ^ k - 1:Nat):Int)=a % ((2 ^ k:Nat):Int):=by
  have hp:2 ^ k≤2 ^ 62:=Nat.pow_le_pow_right (by decide) (by omega)
  have hpos:0<2 ^ k:=Nat.pow_pos (by decide)
  rw [and_i64 a _ (by omega),Nat.and_two_pow_sub_one_eq_mod]
  have hd:((2 ^ k:Nat):Int) ∣ 18446744073709551616:=by
    have:(18446744073709551616:Int)=((2 ^ k:Nat):Int) * ((2 ^ (64 - k):Nat):Int):=by
      rw [← Int.natCast_mul,← Nat.pow_add,show k+(64 - k)=64 by omega]; rfl
    exact ⟨_,this⟩
  have h0:0≤a % 18446744073709551616:=Int.emod_nonneg _ (by decide)
  rw [Int.natCast_emod,Int.toNat_of_nonneg h0,Int.emod_emod_of_dvd a hd]
theorem m1 (a:Int):bitsI .and .i64 a 1=a % 2:=mask_i64 a 1 (by decide)
theorem m7 (a:Int):bitsI .and .i64 a 7=a % 8:=mask_i64 a 3 (by decide)
theorem m2 (a:Int):bitsI .and .i64 a 2=a / 2 % 2 * 2:=by
  have:=and_i64 a 2 (by decide)
  rw [show ((2:Nat):Int)=2 from rfl] at this
  rw [this]
  have h:∀ n:Nat,n &&& 2=n / 2 % 2 * 2:=by
    intro n
    have h1:(n &&& 2)=2 * (n / 2 % 2):=by
      apply Nat.eq_of_testBit_eq
      intro i
      rw [Nat.testBit_and,show (2:Nat)=2 ^ 1 from rfl,Nat.testBit_two_pow,Nat.testBit_two_pow_mul]
      cases i with
      | zero=>simp
      | succ i =>
        cases i with
        | zero=>simp [Nat.testBit_succ,Nat.testBit_zero]
        | succ i=>simp [Nat.testBit_succ]
    omega
  rw [h]
  have h0:0≤a % 18446744073709551616:=Int.emod_nonneg _ (by decide)
  omega
end Go.Lift
end
