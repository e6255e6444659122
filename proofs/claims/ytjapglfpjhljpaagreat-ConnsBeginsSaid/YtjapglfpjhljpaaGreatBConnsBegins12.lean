/- connsBegins_holds: all that the theorem needs, in a few texts (bundle.py; made of the texts that NOTES.md names). -/
import Derived.Below
import Derived.KernelRfl
import Derived.Laws.Append
import Derived.Laws.Bits64
import Derived.Laws.BitsAllLaws
import Derived.Laws.BitsLemmas
import Derived.Laws.IdiomStrings
import Derived.Laws.Sem
import Derived.Laws.Strings
import Derived.LoopN
import Derived.MapKept
import Derived.Orders
import Derived.Test.YtjapglfpjhljpaaGreatChecked
import Derived.WideLaws
import Derived.Test.YtjapglfpjhljpaaGreatBConnsBegins1
import Derived.Test.YtjapglfpjhljpaaGreatBConnsBegins2
import Derived.Test.YtjapglfpjhljpaaGreatBConnsBegins3
import Derived.Test.YtjapglfpjhljpaaGreatBConnsBegins4
import Derived.Test.YtjapglfpjhljpaaGreatBConnsBegins7
import Derived.Test.YtjapglfpjhljpaaGreatBConnsBegins8
import Derived.Test.YtjapglfpjhljpaaGreatBConnsBegins9
import Derived.Test.YtjapglfpjhljpaaGreatBConnsBegins11
section
set_option linter.unusedVariables false
set_option linter.unusedSimpArgs false
namespace Go.Proofs.YtjapglfpjhljpaaGreat.Pr
open Go Go.Lift Go.Proofs
def digitD (c : UInt8) : Prop := c = 49 ∨ c = 50 ∨ c = 52 ∨ c = 56
theorem digit_nat {c : UInt8} (h : digitD c) : c.toNat = 49 ∨ c.toNat = 50 ∨ c.toNat = 52 ∨ c.toNat = 56 := by
  rcases h with rfl | rfl | rfl | rfl <;> decide
theorem letterD.digit {c : UInt8} (h : letterD c) (h1 : ¬ c = 115) (h2 : ¬ c = 108) (h3 : ¬ c = 116) (h4 : ¬ c = 102) : digitD c := by
  rcases h with h | h | h | h | h
  · exact absurd h h4
  · exact absurd h h1
  · exact absurd h h2
  · exact absurd h h3
  · exact h
theorem sizeS {K : KT} {h : Heap} {c : UInt8} (hc : digitD c) (hK : K (.int .i64 ((c.toNat - 48 : Nat) : Int)) h) : CallsH P F.qbd [.int .u8 (c.toNat : Int)] K h := by
  refine qbd.ok ?_
  unfold qbd.p0
  have hn := digit_nat hc
  have j1 : qbd.j1 K (c.toNat : Int) true h := by
    unfold qbd.j1
    refine ifT rfl ?_
    simp only [bd]
    have ew : IntKind.i64.wrap (IntKind.u8.wrap ((c.toNat : Int) - 48)) = ((c.toNat - 48 : Nat) : Int) := by
      rw [IntKind.wrap_u8', wrapI (by omega) (by omega)]; omega
    rw [ew]
    exact hK
  by_cases h1 : c.toNat = 49
  · exact ifT' (by simp [h1]) j1
  refine ifF' (by simp; omega) ?_
  by_cases h2 : c.toNat = 50
  · exact ifT' (by simp [h2]) j1
  refine ifF' (by simp; omega) ?_
  by_cases h3 : c.toNat = 52
  · exact ifT' (by simp [h3]) j1
  refine ifF' (by simp; omega) ?_
  have h4 : c.toNat = 56 := by omega
  rw [show (((c.toNat : Nat) : Int) == 56) = true by simp [h4]]
  exact j1
theorem flagsP_in : ∀ (f : Oct) (k : Nat), k < flagsP f → f[k]? = some 102
  | [], k, h => by simp [flagsP] at h
  | c :: r, k, h => by
    unfold flagsP at h
    split at h
    · rename_i e
      cases k with
      | zero => simp [e]
      | succ k => simpa using flagsP_in r k (by omega)
    · omega
theorem flagsP_out : ∀ (f : Oct), f[flagsP f]? ≠ some 102
  | [] => by simp [flagsP]
  | c :: r => by
    unfold flagsP
    split
    · simpa using flagsP_out r
    · rename_i e
      simpa using e
theorem orLast_eq {o : Oct} (h : o ≠ []) (v : UInt8) : orLast o v = o.take (o.length - 1) ++ [o.getD (o.length - 1) 0 ||| v] := by
  unfold orLast
  have hl := List.length_pos_iff.2 h
  apply List.ext_getElem?
  intro i
  rw [List.getElem?_set, List.getElem?_append]
  simp only [List.length_take]
  by_cases h1 : o.length - 1 = i
  · subst h1
    rw [if_pos rfl, if_pos (by omega), if_neg (by omega), show o.length - 1 - min (o.length - 1) o.length = 0 by omega]
    rfl
  · rw [if_neg h1]
    by_cases h2 : i < o.length - 1
    · rw [if_pos (by omega), List.getElem?_take, if_pos h2]
    · rw [if_neg (by omega), List.getElem?_eq_none (by omega), List.getElem?_eq_none (by simp; omega)]
theorem m7n (k : Nat) : bitsI .and .i64 (k : Int) 7 = ((k % 8 : Nat) : Int) := by rw [m7]; omega
section
variable {K : KT} {L R : List Asr} {h : Heap}
theorem rflags_loop {y : SV} {F : List Bool} {from' at' n : Nat} {f : Oct} {res : Oct} (hn : n = flagsP (f.drop at')) (hF : from' + n ≤ F.length) (hl : f.length < 1000000) (ha : at' ≤ f.length) (hfr : from' < 1000000) [In (Im 1 y) L (bools F)]
    (hK : ∀ p l c h', St (Ow 1 (p, l, c) (u8s res) :: L) h' → K (.slice p l c) h') :
    ∀ (fuel k : Nat) (o : SV) (out : Oct) (h : Heap), n - k < fuel → k ≤ n → out.length ≤ k → (k % 8 ≠ 0 → out ≠ []) → packGo (((F.drop from').take n).drop k) k out = res → St (Ow 1 o (u8s out) :: L) h →
      qai.L1 K fuel y.1 y.2.1 y.2.2 from' f at' o.1 o.2.1 o.2.2 k h
  | 0, _, _, _, _, hf, _, _, _, _, _ => absurd hf (Nat.not_lt_zero _)
  | fuel + 1, k, o, out, h, hf, hk, ho, hne, hg, S => by
    unfold qai.L1
    have hnl : n ≤ f.length - at' := by rw [hn]; have := flagsP_le (f.drop at'); simp at this; exact this
    have ew : IntKind.i64.wrap ((at' : Int) + (k : Int)) = ((at' + k : Nat) : Int) := by rw [wrapI (by omega) (by omega)]; omega
    have ewf : IntKind.i64.wrap ((from' : Int) + (k : Int)) = ((from' + k : Nat) : Int) := by rw [wrapI (by omega) (by omega)]; omega
    rw [ew]
    have stop : k = n → qai.j2 K (qai.L1 K fuel) y.1 y.2.1 y.2.2 from' f at' o.1 o.2.1 o.2.2 k false h := by
      intro e
      unfold qai.j2
      refine ifF rfl (hK _ _ _ h ?_)
      rw [List.drop_eq_nil_of_le (by simp; omega)] at hg
      unfold packGo at hg
      subst hg
      exact S
    by_cases hkn : k < n
    · have h102 := flagsP_in (f.drop at') k (by omega)
      rw [List.getElem?_drop] at h102
      have hlt : at' + k < f.length := by omega
      rw [List.getElem?_eq_getElem hlt, Option.some.injEq] at h102
      have el : (lb f ((at' + k : Nat) : Int) == 102) = true := by
        have := lbq hlt 102
        rw [show ((102 : UInt8).toNat : Int) = 102 from rfl] at this
        rw [this, h102]; rfl
      refine ifT (by simp; omega) ⟨by omega, by omega, ?_⟩
      rw [el]
      have hfl : ((F.drop from').take n).drop k = F[from' + k]'(by omega) :: ((F.drop from').take n).drop (k + 1) := by
        rw [List.drop_eq_getElem_cons (by simp; omega)]
        simp
      rw [hfl] at hg
      unfold packGo at hg
      have next : ∀ p l c o2 h', o2.length ≤ k + 1 → o2 ≠ [] → packGo (((F.drop from').take n).drop (k + 1)) (k + 1) o2 = res → St (Ow 1 (p, l, c) (u8s o2) :: L) h' → qai.j3 K (qai.L1 K fuel) y.1 y.2.1 y.2.2 from' f at' p l c k h' := by
        intro p l c o2 h' h1 h2 h3 S'
        unfold qai.j3
        simp only [bd]
        rw [wsucc (by omega)]
        exact rflags_loop hn hF hl ha hfr hK fuel (k + 1) (p, l, c) o2 h' (by omega) (by omega) h1 (fun _ => h2) h3 S'
      have j4 : ∀ (o : SV) (o2 : Oct) (h' : Heap), o2.length ≤ k + 1 → o2 ≠ [] → packGo (((F.drop from').take n).drop (k + 1)) (k + 1) (if F[from' + k]'(by omega) then orLast o2 (bitO (k % 8)) else o2) = res → St (Ow 1 o (u8s o2) :: L) h' → qai.j4 K (qai.L1 K fuel) y.1 y.2.1 y.2.2 from' f at' o.1 o.2.1 o.2.2 k h' := by
        intro o o2 h' h1 h2 h3 S'
        unfold qai.j4
        rw [ewf]
        have lp := List.length_pos_iff.2 h2
        have lo : o.2.1 = o2.length := by have := Sl.len S'.sl; omega
        refine ixV (i := ((from' + k : Nat) : Int)) (n := from' + k) (w := .bool (F[from' + k]'(by omega))) (S'.isl 1 y) rfl (by simp only [bools, List.getElem?_map, List.getElem?_eq_getElem (show from' + k < F.length by omega), Option.map_some]) fun q eq cq => ?_
        simp only [rdB cq]
        cases hb : F[from' + k]'(by omega) with
        | false =>
          rw [hb] at h3
          simp only [Bool.false_eq_true, if_false] at h3
          exact ifF rfl (next _ _ _ o2 h' h1 h2 h3 S')
        | true =>
          rw [hb] at h3
          simp only [if_true] at h3
          refine ifT rfl ?_
          have S1 : St (Ow 1 (some (top h'), 0, 0) (u8s []) :: Ow 1 o (u8s o2) :: L) (al h' #[] T.uint8) := (S'.al [] T.uint8).bxOw (sz := 1) (n := 0) rfl
          have el1 : IntKind.i64.wrap (((o.2.1 : Nat) : Int) - 1) = ((o.2.1 - 1 : Nat) : Int) := by rw [wrapI (by omega) (by omega)]; omega
          have S2 := (S1.fz 1 o).itake o (n := o.2.1 - 1) (by omega)
          have hcap := S2.tl.ile 1 o
          simp only [bd, el1, slA_zero, Int.toNat_natCast]
          refine ⟨⟨by omega, by omega⟩, ?_⟩
          have et : (u8s o2).take (o.2.1 - 1) = u8s (o2.take (o2.length - 1)) := by rw [u8s_take, lo]
          rw [et] at S2
          have src : Src P 1 (al h' #[] T.uint8) (.slice o.1 (o.2.1 - 1) o.2.2) (o.2.1 - 1) (u8s (o2.take (o2.length - 1))) := Src.slice (S2.iml (List.mem_cons_self ..)).1 (u8s_one _)
          refine appS (s := (some (top h'), 0, 0)) (bs := []) S2 src (by simp; omega) fun p l c h2' S3 => ⟨_, _, _, rfl, ?_⟩
          refine ixV (i := ((o.2.1 - 1 : Nat) : Int)) (n := o2.length - 1) (w := .int .u8 ((o2.getD (o2.length - 1) 0).toNat : Int)) (S3.isl 1 o) (by omega) (by simp only [u8s, List.getElem?_map, List.getElem?_eq_getElem (show o2.length - 1 < o2.length by omega), Option.map_some, getD_lt _ _ (show o2.length - 1 < o2.length by omega)]) fun q2 eq2 cq2 => ?_
          rw [Int.toNat_natCast] at cq2
          simp only [rdN cq2]
          rw [m7n, wrap_len (by omega), shl_u8 (by omega), or_u8]
          refine ⟨by omega, ?_⟩
          refine app1S (o := (p, l, c)) S3 (by simp; omega) fun p3 l3 c3 h3' S4 => ⟨_, _, _, rfl, next p3 l3 c3 (orLast o2 (bitO (k % 8))) h3' (by simp [orLast]; omega) (by intro e; have := congrArg List.length e; simp [orLast] at this; exact h2 this) h3 ?_⟩
          rw [orLast_eq h2]
          try simp only [List.nil_append] at S4
          exact S4.to
      unfold qai.j2
      refine ifT rfl ?_
      rw [m7n]
      by_cases h8 : k % 8 = 0
      · rw [if_pos h8] at hg
        refine ifT (by simp; omega) ?_
        simp only [bd]
        exact app1S (x := 0) (o := o) S (by omega) fun p l c h2 S2 => ⟨_, _, _, rfl, j4 (p, l, c) (out ++ [0]) h2 (by simp; omega) (by simp) hg S2⟩
      · rw [if_neg h8] at hg
        exact ifF (by simp; omega) (j4 o out h (by omega) (hne h8) hg S)
    · have hk' : k = n := by omega
      by_cases hlt : at' + k < f.length
      · have hout := flagsP_out (f.drop at')
        rw [← hn, List.getElem?_drop, ← hk', List.getElem?_eq_getElem hlt] at hout
        have el : (lb f ((at' + k : Nat) : Int) == 102) = false := by
          have := lbq hlt 102
          rw [show ((102 : UInt8).toNat : Int) = 102 from rfl] at this
          rw [this, beq_eq_false_iff_ne]
          exact fun e => hout (by rw [e])
        refine ifT (by simp; omega) ⟨by omega, by omega, ?_⟩
        rw [el]
        exact stop hk'
      · exact ifF (by simp; omega) (stop hk')
theorem rflagsS {y : SV} {fl : List Bool} {from' at' : Nat} {f : Oct} (S : St L h) [In (Im 1 y) L (bools fl)] (hF : from' + flagsP (f.drop at') ≤ fl.length) (hl : f.length < 1000000) (ha : at' ≤ f.length) (hfr : from' < 1000000)
    (hK : ∀ p l c h', St (Ow 1 (p, l, c) (u8s (packGo ((fl.drop from').take (flagsP (f.drop at'))) 0 [])) :: L) h' → K (.slice p l c) h') :
    CallsH P F.qai [.slice y.1 y.2.1 y.2.2, .int .i64 from', .string (mkS f), .int .i64 at'] K h := by
  refine qai.ok ?_
  unfold qai.p0
  exact ⟨_, rflags_loop rfl hF hl ha hfr hK _ 0 (none, 0, 0) [] h (Nat.lt_succ_self _) (Nat.zero_le _) (by simp) (fun e => absurd rfl e) rfl (S.owNil 1)⟩
theorem fits_loop {m : Addr} {a b : Int} {y : MV} {x : PM} {B : Nat → Prop} {f : Oct} {res : Bool} (nf : niceForm f) (hx : x.N.length < 1000000 ∧ x.S.length < 1000000 ∧ x.F.length < 1000000) (h64 : ∀ v ∈ x.N, v < 18446744073709551616) (hw : wtD 8 x.T ≤ 67108864)
    [In (Im 1 y.n) L (nums x.N)] [In (Im 1 y.s) L (strs x.S)] [In (Im 1 y.f) L (bools x.F)] [In (Tb B y.t) L x.T]
    (hK : ∀ h', St L h' → K (.bool res) h') :
    ∀ (fuel i n s fc t : Nat) (h : Heap), f.length - i < fuel → i ≤ f.length → n ≤ i ∧ s ≤ i ∧ fc ≤ i ∧ t ≤ i → n ≤ x.N.length → s ≤ x.S.length →
      (fitsNS (f.drop i) (x.N.drop n) (x.S.drop s) && decide (x.F.length = fc + (f.drop i).countP isF) && decide (t + (f.drop i).countP isT = 1 ∨ x.T = []) && tableOkP x.T) = res →
      St (Bx m (mcells a b y) :: L) h → qae.L2 K fuel f m n s fc t i h
  | 0, _, _, _, _, _, _, hf, _, _, _, _, _, _ => absurd hf (Nat.not_lt_zero _)
  | fuel + 1, i, n, s, fc, t, h, hf, hi, hb, hn, hs, hg, S => by
    unfold qae.L2
    have lS : y.s.2.1 = x.S.length := by have := (S.isl 1 y.s).1; simp only [strs, List.length_map, Nat.mul_one] at this; omega
    have lN : y.n.2.1 = x.N.length := by have := (S.isl 1 y.n).1; simp only [nums, List.length_map, Nat.mul_one] at this; omega
    have lF : y.f.2.1 = x.F.length := by have := (S.isl 1 y.f).1; simp only [bools, List.length_map, Nat.mul_one] at this; omega
    have lT := tbLen S (B := B) (s := y.t)
    have hfl := nf.2.2
    by_cases hlt : i < f.length
    · refine ifT (by simp; omega) ⟨by omega, by omega, ?_⟩
      have hc := nf.1 f[i] (List.getElem_mem _)
      have hdrop : f.drop i = f[i] :: f.drop (i + 1) := List.drop_eq_getElem_cons hlt
      have el : lb f i = (f[i].toNat : Int) := by simp [lb, List.getD, hlt]
      rw [hdrop] at hg
      rw [el]
      generalize f[i] = c at *
      have e115 := eb8 c 115
      have e108 := eb8 c 108
      have e116 := eb8 c 116
      have e102 := eb8 c 102
      simp only [show ((102 : UInt8).toNat : Int) = 102 from rfl, show ((116 : UInt8).toNat : Int) = 116 from rfl, show ((115 : UInt8).toNat : Int) = 115 from rfl, show ((108 : UInt8).toNat : Int) = 108 from rfl] at e115 e108 e116 e102
      simp only [bd]
      rw [e115, e108]
      have j3 : ∀ n s fc t : Nat, n ≤ i + 1 ∧ s ≤ i + 1 ∧ fc ≤ i + 1 ∧ t ≤ i + 1 → n ≤ x.N.length → s ≤ x.S.length →
          (fitsNS (f.drop (i + 1)) (x.N.drop n) (x.S.drop s) && decide (x.F.length = fc + (f.drop (i + 1)).countP isF) && decide (t + (f.drop (i + 1)).countP isT = 1 ∨ x.T = []) && tableOkP x.T) = res →
          qae.j3 K (qae.L2 K fuel) f m n s fc t i h := by
        intro n s fc t h1 h2 h3 h4
        unfold qae.j3
        simp only [bd]
        rw [wsucc (by omega)]
        exact fits_loop (B := B) nf hx h64 hw hK fuel (i + 1) n s fc t h (by omega) (by omega) h1 h2 h3 h4 S
      simp only [List.countP_cons] at hg
      by_cases k1 : c = 115 ∨ c = 108
      · have kF : isF c = false := by rcases k1 with rfl | rfl <;> rfl
        have kT : isT c = false := by rcases k1 with rfl | rfl <;> rfl
        simp only [kF, kT, Bool.false_eq_true, if_false, Nat.add_zero] at hg
        have j4 : qae.j4 K (qae.L2 K fuel) f m n s fc t i (c.toNat : Int) (c.toNat : Int) true h := by
          unfold qae.j4
          refine ifT rfl ?_
          simp only [rdS (S.rc m 3 rfl)]
          have no : res = false → ∀ b, b = true → qae.j5 K (qae.L2 K fuel) f m n s fc t i b h := by
            intro e b eb
            subst e; subst eb
            unfold qae.j5
            exact ifT rfl (hK h S.tl)
          by_cases hlen : s ≥ x.S.length
          · refine ifT' (by simp; omega) (no ?_ true rfl)
            rw [List.drop_eq_nil_of_le hlen] at hg
            rw [fitsNS_cons, if_pos k1] at hg
            simpa using hg.symm
          · refine ifF' (by simp; omega) ?_
            have hsd : x.S.drop s = x.S[s]'(by omega) :: x.S.drop (s + 1) := List.drop_eq_getElem_cons (by omega)
            rw [hsd, fitsNS_cons, if_pos k1] at hg
            simp only at hg
            have yes : (decide (c = 108) || decide ((x.S[s]'(by omega)).length ≤ 255)) = true → qae.j5 K (qae.L2 K fuel) f m n s fc t i false h := by
              intro e
              rw [e, Bool.true_and] at hg
              unfold qae.j5
              refine ifF rfl ?_
              simp only [bd]
              rw [wsucc (by omega)]
              exact j3 n (s + 1) fc t (by omega) hn (by omega) hg
            rw [e115]
            by_cases k2 : c = 115
            · refine ifT (by simp [k2]) ?_
              refine ixV (i := (s : Int)) (n := s) (w := .string (mkS (x.S[s]'(by omega)))) (S.isl 1 y.s) rfl (by simp only [strs, List.getElem?_map, List.getElem?_eq_getElem (show s < x.S.length by omega), Option.map_some]) fun q eq cq => ?_
              simp only [rdT cq]
              by_cases h255 : (x.S[s]'(by omega)).length ≤ 255
              · rw [show decide (((List.length (x.S[s]'(by omega)) : Nat) : Int) > 255) = false from decide_eq_false (by omega)]
                exact yes (by simp [h255])
              · rw [show decide (((List.length (x.S[s]'(by omega)) : Nat) : Int) > 255) = true from decide_eq_true (by omega)]
                refine no ?_ true rfl
                rw [k2, decide_eq_false h255] at hg
                simpa using hg.symm
            · exact ifF (by simp [k2]) (yes (by simp [k1.resolve_left k2]))
        by_cases k2 : c = 115
        · exact ifT (by simp [k2]) (by rw [decide_eq_true k2]; exact j4)
        · exact ifF (by simp [k2]) (by rw [decide_eq_true (k1.resolve_left k2)]; exact j4)
      have n5 : ¬ c = 115 := fun e => k1 (.inl e)
      have n8 : ¬ c = 108 := fun e => k1 (.inr e)
      refine ifF (by simp [n5]) ?_
      rw [decide_eq_false n8]
      unfold qae.j4
      refine ifF rfl ?_
      simp only [bd]
      rw [e116, e102]
      rw [fitsNS_cons, if_neg k1] at hg
      by_cases k3 : c = 116
      · subst k3
        simp only [show isF 116 = false from rfl, show isT 116 = true from rfl, Bool.false_eq_true, if_false, if_true, Nat.add_zero, true_or] at hg
        refine ifT rfl ?_
        rw [wsucc (by omega)]
        refine j3 n s fc (t + 1) (by omega) hn hs ?_
        rw [show t + 1 + List.countP isT (f.drop (i + 1)) = t + (List.countP isT (f.drop (i + 1)) + 1) by omega]
        exact hg
      refine ifF (by simp [k3]) ?_
      by_cases k4 : c = 102
      · subst k4
        simp only [show isF 102 = true from rfl, show isT 102 = false from rfl, Bool.false_eq_true, if_false, if_true, Nat.add_zero, or_true] at hg
        refine ifT rfl ?_
        rw [wsucc (by omega)]
        refine j3 n s (fc + 1) t (by omega) hn hs ?_
        rw [show fc + 1 + List.countP isF (f.drop (i + 1)) = fc + (List.countP isF (f.drop (i + 1)) + 1) by omega]
        exact hg
      refine ifF (by simp [k4]) ?_
      have hd := hc.digit n5 n8 k3 k4
      have hdn := digit_nat hd
      have k5 : ¬ (c = 116 ∨ c = 102) := by rintro (e | e); exact k3 e; exact k4 e
      have kF : isF c = false := by simp [isF, k4]
      have kT : isT c = false := by simp [isT, k3]
      simp only [kF, kT, Bool.false_eq_true, if_false, Nat.add_zero, if_neg k5] at hg
      simp only [rdS (S.rc m 2 rfl)]
      have no : res = false → qae.j6 K (qae.L2 K fuel) f m n s fc t i true h := by
        intro e
        subst e
        unfold qae.j6
        exact ifT rfl (hK h S.tl)
      by_cases hlen : n ≥ x.N.length
      · have : res = false := by
          rw [List.drop_eq_nil_of_le hlen] at hg
          simpa using hg.symm
        exact ifT' (by simp; omega) ⟨⟨no this, no this⟩, no this⟩
      · refine ifF' (by simp; omega) (sizeS hd ⟨_, rfl, ?_⟩)
        have hnd : x.N.drop n = x.N[n]'(by omega) :: x.N.drop (n + 1) := List.drop_eq_getElem_cons (by omega)
        rw [hnd] at hg
        simp only at hg
        have yes : (decide (c.toNat - 48 = 8) || decide ((x.N[n]'(by omega)) / 256 ^ (c.toNat - 48) = 0)) = true → qae.j6 K (qae.L2 K fuel) f m n s fc t i false h := by
          intro e
          rw [e, Bool.true_and] at hg
          unfold qae.j6
          refine ifF rfl ?_
          simp only [bd]
          rw [wsucc (by omega)]
          exact j3 (n + 1) s fc t (by omega) (by omega) hs hg
        by_cases h8 : c.toNat - 48 = 8
        · have y6 := yes (by simp [h8])
          exact ifF (by simp; omega) ⟨⟨y6, y6⟩, y6⟩
        · refine ifT (by simp; omega) ?_
          have hv := h64 _ (List.getElem_mem (show n < x.N.length by omega))
          have ew : IntKind.u64.wrap (IntKind.i64.wrap ((8 : Int) * ((c.toNat - 48 : Nat) : Int))) = ((8 * (c.toNat - 48) : Nat) : Int) := by
            rw [wrapI (by omega) (by omega), IntKind.wrap_u64]; omega
          have eq0 : (shrI .u64 ((x.N[n]'(by omega) : Nat) : Int) ((8 * (c.toNat - 48) : Nat) : Int) != 0) = decide (¬ (x.N[n]'(by omega)) / 256 ^ (c.toNat - 48) = 0) := by
            simp only [shrI, IntKind.bits, Int.toNat_natCast]
            rw [show min (8 * (c.toNat - 48)) 64 = 8 * (c.toNat - 48) by omega]
            have hp : (2 : Int) ^ (8 * (c.toNat - 48)) = ((256 ^ (c.toNat - 48) : Nat) : Int) := by
              have : (256 : Nat) ^ (c.toNat - 48) = 2 ^ (8 * (c.toNat - 48)) := by rw [Nat.pow_mul]
              rw [this, Int.natCast_pow]; rfl
            rw [hp, Int.fdiv_eq_ediv_of_nonneg _ (Int.natCast_nonneg _), ← Int.natCast_ediv, Bool.eq_iff_iff, bne_iff_ne, decide_eq_true_eq]
            omega
          have j6 : qae.j6 K (qae.L2 K fuel) f m n s fc t i (decide (¬ (x.N[n]'(by omega)) / 256 ^ (c.toNat - 48) = 0)) h := by
            by_cases h0 : (x.N[n]'(by omega)) / 256 ^ (c.toNat - 48) = 0
            · rw [decide_eq_false (fun e => e h0)]
              exact yes (by simp [h0])
            · rw [decide_eq_true h0]
              refine no ?_
              rw [decide_eq_false h8, decide_eq_false h0] at hg
              simpa using hg.symm
          have ix := ixV (h := h) (i := (n : Int)) (n := n) (w := .int .u64 ((x.N[n]'(by omega) : Nat) : Int)) (R := fun a => a = a) (S.isl 1 y.n) rfl (by simp only [nums, List.getElem?_map, List.getElem?_eq_getElem (show n < x.N.length by omega), Option.map_some])
          have cell : ∃ q, y.n.1 = some q ∧ (0 : Int) ≤ (n : Int) ∧ (n : Int) < ((y.n.2.1 : Nat) : Int) ∧ hcell h (q.add (Int.toNat (n : Int) * 1)) = some (.int .u64 ((x.N[n]'(by omega) : Nat) : Int)) :=
            ixV (i := (n : Int)) (n := n) (w := .int .u64 ((x.N[n]'(by omega) : Nat) : Int)) (S.isl 1 y.n) rfl (by simp only [nums, List.getElem?_map, List.getElem?_eq_getElem (show n < x.N.length by omega), Option.map_some]) fun q _ cq => cq
          obtain ⟨q, eq, c1, c2, cq⟩ := cell
          have hsz : ∀ {K : KT}, K (.int .i64 ((c.toNat - 48 : Nat) : Int)) h → CallsH P F.qbd [.int .u8 (c.toNat : Int)] K h := fun hK => sizeS hd hK
          simp only [rdS (S.rc m 2 rfl)]
          refine ⟨⟨q, eq, c1, c2, ?_⟩, ?_⟩
          · simp only [rdN cq]
            exact ⟨hsz ⟨_, rfl, by rw [ew]; omega, by rw [ew, eq0]; exact j6⟩, hsz ⟨_, rfl, _, cq, by rw [ew]; omega, by rw [ew, eq0]; exact j6⟩⟩
          · refine hsz ⟨_, rfl, ?_⟩
            simp only [rdS (S.rc m 2 rfl)]
            refine ⟨q, eq, c1, c2, ?_⟩
            simp only [rdN cq]
            exact ⟨by rw [ew]; omega, by rw [ew, eq0]; exact j6⟩
    · refine ifF (by simp; omega) ?_
      rw [List.drop_eq_nil_of_le (by omega)] at hg
      simp only [fitsNS, List.countP_nil, Nat.add_zero] at hg
      unfold qae.j1
      simp only [rdS (S.rc m 2 rfl), rdS (S.rc m 3 rfl), rdS (S.rc m 4 rfl), rdS (S.rc m 5 rfl)]
      have fin : res = false → K (.bool false) h := fun e => by subst e; exact hK h S.tl
      by_cases c1 : n = x.N.length
      · refine ifT (by simp; omega) ?_
        by_cases c2 : s = x.S.length
        · refine ifT (by simp; omega) ?_
          have e1 : (x.N.drop n = [] ∧ x.S.drop s = []) := ⟨List.drop_eq_nil_of_le (by omega), List.drop_eq_nil_of_le (by omega)⟩
          rw [decide_eq_true e1, Bool.true_and] at hg
          by_cases c3 : fc = x.F.length
          · refine ifT (by simp; omega) ?_
            replace hg : (decide (t = 1 ∨ x.T = []) && tableOkP x.T) = res := by rw [← hg]; have e : x.F.length = fc := c3.symm; simp only [e, decide_true, Bool.true_and]; congr
            have tok : (t = 1 ∨ x.T = []) → CallsH P F.qbz [.slice y.t.1 y.t.2.1 y.t.2.2] (fun v h' => ∃ b, v = .bool b ∧ K (.bool b) h') h := by
              intro e
              rw [decide_eq_true e, Bool.true_and] at hg
              subst hg
              exact rtokS (B := B) S hw fun h1 S1 => ⟨_, rfl, hK h1 S1.tl⟩
            by_cases c4 : t = 1
            · exact ifT' (by simp [c4]) ⟨fun _ => tok (.inl c4), fun e => absurd e (by simp)⟩
            · refine ifF' (by simp; omega) ?_
              by_cases c5 : x.T = []
              · exact ifT (by rw [nilB _ _ lT]; simp [c5]) (tok (.inr c5))
              · refine ifF (by rw [nilB _ _ lT]; simp [c5]) (fin ?_)
                rw [decide_eq_false (fun e => e.elim c4 c5), Bool.false_and] at hg
                exact hg.symm
          · refine ifF (by simp; omega) (fin ?_)
            replace hg : false = res := by
              rw [← hg]
              have : ¬ x.F.length = fc := fun e => c3 e.symm
              simp [this]
            exact hg.symm
        · refine ifF (by simp; omega) (fin ?_)
          rw [decide_eq_false, Bool.false_and, Bool.false_and, Bool.false_and] at hg
          · exact hg.symm
          · intro e
            have := List.drop_eq_nil_iff.1 e.2
            omega
      · refine ifF (by simp; omega) (fin ?_)
        rw [decide_eq_false, Bool.false_and, Bool.false_and, Bool.false_and] at hg
        · exact hg.symm
        · intro e
          have := List.drop_eq_nil_iff.1 e.1
          omega
theorem fitsS {a b : Int} {y : MV} {x : PM} {B : Nat → Prop} {f : Oct} (S : St L h) (nf : niceForm f) (hx : x.N.length < 1000000 ∧ x.S.length < 1000000 ∧ x.F.length < 1000000) (h64 : ∀ v ∈ x.N, v < 18446744073709551616) (hw : wtD 8 x.T ≤ 67108864)
    [In (Im 1 y.n) L (nums x.N)] [In (Im 1 y.s) L (strs x.S)] [In (Im 1 y.f) L (bools x.F)] [In (Tb B y.t) L x.T]
    (hK : ∀ h', St L h' → K (.bool (fitsP f x)) h') : CallsH P F.qae [.agg (List.toArray (mcells a b y)), .string (mkS f)] K h := by
  refine qae.ok ?_
  unfold qae.p0
  simp only [bd]
  exact ⟨_, fits_loop (B := B) nf hx h64 hw hK _ 0 0 0 0 0 _ (Nat.lt_succ_self _) (Nat.zero_le _) (by omega) (Nat.zero_le _) (Nat.zero_le _) (by simp [fitsP]) (S.al (mcells a b y) T.api_Method)⟩
theorem wr_cons (prev : Bool) (c : UInt8) (r : Oct) (o : Oct) (x : PM) : wr prev (c :: r) (o, x) = (if c = 115 then wr false r (o ++ octsN 1 (x.S.headD []).length ++ x.S.headD [], { x with S := x.S.tail })
    else if c = 108 then wr false r (o ++ octsN 4 (x.S.headD []).length ++ x.S.headD [], { x with S := x.S.tail })
    else if c = 116 then wr false r (o ++ octsN 4 (rowsR 8 x.T).length ++ rowsR 8 x.T, x)
    else if c = 102 then wr true r (if prev then o else o ++ packGo (x.F.take (flagsP (c :: r))) 0 [], { x with F := x.F.tail })
    else wr false r (o ++ octsN (c.toNat - 48) (x.N.headD 0), { x with N := x.N.tail })) := by
  conv => lhs; unfold wr
theorem wr_app : ∀ (f : Oct) (prev : Bool) (q o : Oct) (x : PM), wr prev f (q ++ o, x) = q ++ wr prev f (o, x)
  | [], _, _, _, _ => by simp [wr]
  | c :: r, prev, q, o, x => by
    rw [wr_cons, wr_cons]
    have ih := wr_app r
    by_cases k1 : c = 115
    · rw [if_pos k1, if_pos k1, ← ih]; simp only [List.append_assoc]
    rw [if_neg k1, if_neg k1]
    by_cases k2 : c = 108
    · rw [if_pos k2, if_pos k2, ← ih]; simp only [List.append_assoc]
    rw [if_neg k2, if_neg k2]
    by_cases k3 : c = 116
    · rw [if_pos k3, if_pos k3, ← ih]; simp only [List.append_assoc]
    rw [if_neg k3, if_neg k3]
    by_cases k4 : c = 102
    · rw [if_pos k4, if_pos k4, ← ih]
      cases prev
      · simp only [Bool.false_eq_true, if_false, List.append_assoc]
      · simp only [if_true]
    rw [if_neg k4, if_neg k4, ← ih]
    simp only [List.append_assoc]
theorem method_loop {m : Addr} {a b : Int} {y : MV} {x : PM} {B : Nat → Prop} {f : Oct} {res : Oct} (nf : niceForm f) (hx : x.N.length < 1000000 ∧ x.S.length < 1000000 ∧ x.F.length < 1000000) (hsl : ∀ s ∈ x.S, s.length < 1073741824) (hw : wtD 8 x.T ≤ 67108864) (hok : tableOkP x.T = true)
    [In (Im 1 y.n) L (nums x.N)] [In (Im 1 y.s) L (strs x.S)] [In (Im 1 y.f) L (bools x.F)] [In (Tb B y.t) L x.T]
    (hK : ∀ p l c h', St (Ow 1 (p, l, c) (u8s res) :: L) h' → K (.tuple #[.slice p l c, .bool true]) h') :
    ∀ (fuel i n s fc : Nat) (o : SV) (out : Oct) (h : Heap), f.length - i < fuel → i ≤ f.length → n ≤ i ∧ s ≤ i ∧ fc ≤ i → n ≤ x.N.length → s ≤ x.S.length → fitsNS (f.drop i) (x.N.drop n) (x.S.drop s) = true → x.F.length = fc + (f.drop i).countP isF → out.length ≤ 2147483648 + i * 2147483648 →
      wr (decide (0 < i ∧ f[i - 1]? = some 102)) (f.drop i) (out, ⟨x.N.drop n, x.S.drop s, x.F.drop fc, x.T⟩) = res → St (Ow 1 o (u8s out) :: Bx m (mcells a b y) :: L) h → qab.L3 K fuel o.1 o.2.1 o.2.2 m f n s fc i h
  | 0, _, _, _, _, _, _, _, hf, _, _, _, _, _, _, _, _, _ => absurd hf (Nat.not_lt_zero _)
  | fuel + 1, i, n, s, fc, o, out, h, hf, hi, hb, hn, hs, hfit, hF, ho, hg, S => by
    unfold qab.L3
    have hfl := nf.2.2
    by_cases hlt : i < f.length
    · refine ifT (by simp; omega) ⟨by omega, by omega, ?_⟩
      have hc := nf.1 f[i] (List.getElem_mem _)
      have hdrop : f.drop i = f[i] :: f.drop (i + 1) := List.drop_eq_getElem_cons hlt
      have el : lb f i = (f[i].toNat : Int) := by simp [lb, List.getD, hlt]
      have eprev : ∀ c, f[i] = c → decide (0 < i + 1 ∧ f[i + 1 - 1]? = some 102) = decide (c = 102) := by
        intro c ec
        rw [Nat.add_sub_cancel, List.getElem?_eq_getElem hlt, ec]
        simp
      have e102' : 0 < i → (lb f ((i - 1 : Nat) : Int) != 102) = !decide (0 < i ∧ f[i - 1]? = some 102) := by
        intro h0
        have hl1 : i - 1 < f.length := by omega
        have := lbq hl1 102
        rw [show ((102 : UInt8).toNat : Int) = 102 from rfl] at this
        rw [bne, this, List.getElem?_eq_getElem hl1]
        congr 1
        rw [Bool.eq_iff_iff, beq_iff_eq, decide_eq_true_eq, Option.some.injEq]
        exact ⟨fun e => ⟨h0, e⟩, fun e => e.2⟩
      have hruns : flagsP (f.drop i) ≤ (f.drop i).countP isF := by have := (flags_split (f.drop i)).2.2.2; omega
      have hF0 := hF
      have dropKeep := hdrop
      rw [hdrop, wr_cons] at hg
      rw [hdrop, fitsNS_cons] at hfit
      rw [hdrop, List.countP_cons] at hF
      rw [el]
      have ep := eprev _ rfl
      generalize hcc : f[i] = c at *
      have e115 := eb8 c 115
      have e108 := eb8 c 108
      have e116 := eb8 c 116
      have e102 := eb8 c 102
      simp only [show ((102 : UInt8).toNat : Int) = 102 from rfl, show ((116 : UInt8).toNat : Int) = 116 from rfl, show ((115 : UInt8).toNat : Int) = 115 from rfl, show ((108 : UInt8).toNat : Int) = 108 from rfl] at e115 e108 e116 e102
      simp only [bd]
      rw [e115, e108, e116, e102]
      have lO : o.2.1 = out.length := by have := Sl.len S.sl; omega
      have j4 : ∀ (n s fc : Nat) (p : OA) (l cc : Nat) (out2 : Oct) (h' : Heap), n ≤ i + 1 ∧ s ≤ i + 1 ∧ fc ≤ i + 1 → n ≤ x.N.length → s ≤ x.S.length → fitsNS (f.drop (i + 1)) (x.N.drop n) (x.S.drop s) = true → x.F.length = fc + (f.drop (i + 1)).countP isF → out2.length ≤ out.length + 2147483648 →
          wr (decide (c = 102)) (f.drop (i + 1)) (out2, ⟨x.N.drop n, x.S.drop s, x.F.drop fc, x.T⟩) = res → St (Ow 1 (p, l, cc) (u8s out2) :: Bx m (mcells a b y) :: L) h' → qab.j4 K (qab.L3 K fuel) p l cc m f n s fc i h' := by
        intro n s fc p l cc out2 h' h1 h2 h3 h4 h5 h6 h7 S'
        unfold qab.j4
        simp only [bd]
        rw [wsucc (by omega)]
        exact method_loop (B := B) nf hx hsl hw hok hK fuel (i + 1) n s fc (p, l, cc) out2 h' (by omega) (by omega) h1 h2 h3 h4 h5 (by omega) (by rw [ep]; exact h7) S'
      by_cases k1 : c = 115 ∨ c = 108
      · have kF : isF c = false := by rcases k1 with rfl | rfl <;> rfl
        have k102 : decide (c = 102) = false := by rcases k1 with rfl | rfl <;> rfl
        rw [if_pos k1] at hfit
        rw [kF] at hF
        by_cases hlen : s ≥ x.S.length
        · rw [List.drop_eq_nil_of_le hlen] at hfit
          cases hfit
        have hsd : x.S.drop s = x.S[s]'(by omega) :: x.S.drop (s + 1) := List.drop_eq_getElem_cons (by omega)
        rw [hsd] at hfit hg
        simp only [Bool.and_eq_true] at hfit
        have hlS := hsl _ (List.getElem_mem (show s < x.S.length by omega))
        have cell : ∃ q, y.s.1 = some q ∧ (0 : Int) ≤ (s : Int) ∧ (s : Int) < ((y.s.2.1 : Nat) : Int) ∧ hcell h (q.add (Int.toNat (s : Int) * 1)) = some (.string (mkS (x.S[s]'(by omega)))) :=
          ixV (i := (s : Int)) (n := s) (w := .string (mkS (x.S[s]'(by omega)))) (S.isl 1 y.s) rfl (by simp only [strs, List.getElem?_map, List.getElem?_eq_getElem (show s < x.S.length by omega), Option.map_some]) fun q _ cq => cq
        obtain ⟨q, eq, c1, c2, cq⟩ := cell
        by_cases k2 : c = 115
        · rw [if_pos k2] at hg
          simp only [List.headD_cons, List.tail_cons] at hg
          refine ifT (by simp [k2]) ?_
          simp only [rdS (S.rc m 3 rfl)]
          refine ⟨q, eq, c1, c2, ?_⟩
          simp only [rdT cq]
          refine rrshortS (s := o) S S.sl (by omega) (by omega) fun p l cc h2 S2 => ⟨_, _, _, rfl, ?_⟩
          rw [wsucc (by omega)]
          exact j4 n (s + 1) fc p l cc _ h2 (by omega) hn (by omega) hfit.2 (by simpa using hF) (by simp [octsN_length]; omega) (by rw [k102]; exact hg) S2.d1
        · rw [if_neg k2, if_pos (k1.resolve_left k2)] at hg
          simp only [List.headD_cons, List.tail_cons] at hg
          refine ifF (by simp [k2]) (ifT (by simp [k1.resolve_left k2]) ?_)
          simp only [rdS (S.rc m 3 rfl)]
          refine ⟨q, eq, c1, c2, ?_⟩
          simp only [rdT cq]
          refine St.bytes u_str u_sl u_u8 S fun cb h2 S2 => ⟨_, _, _, rfl, ?_⟩
          refine rrlongS (s := o) (bs := out) (t := (some (top h), _, cb)) S2 S2.p1.sl S2.sl (by omega) (by omega) fun p l cc h3 S3 => ⟨_, _, _, rfl, ?_⟩
          rw [wsucc (by omega)]
          exact j4 n (s + 1) fc p l cc _ h3 (by omega) hn (by omega) hfit.2 (by simpa using hF) (by simp [octsN_length]; omega) (by rw [k102]; exact hg) S3.d1.d1
      have n5 : ¬ c = 115 := fun e => k1 (.inl e)
      have n8 : ¬ c = 108 := fun e => k1 (.inr e)
      refine ifF (by simp [n5]) (ifF (by simp [n8]) ?_)
      rw [if_neg n5, if_neg n8] at hg
      rw [if_neg k1] at hfit
      by_cases k3 : c = 116
      · subst k3
        rw [if_pos rfl] at hg
        rw [if_pos (.inl rfl)] at hfit
        refine ifT rfl ?_
        simp only [rdS (S.rc m 5 rfl)]
        have hfd : formedP 8 x.T = true ∧ (rowsR 8 x.T).length ≤ 2000 := by
          unfold tableOkP at hok
          simpa using hok
        refine rrowsS (B := B) S hfd.1 hw fun p1 l1 c1 h1 S1 => ⟨_, _, _, rfl, ?_⟩
        refine rrlongS (s := o) (bs := out) (t := (p1, l1, c1)) S1 S1.p1.sl S1.sl (by omega) (by omega) fun p l cc h3 S3 => ⟨_, _, _, rfl, ?_⟩
        exact j4 n s fc p l cc _ h3 (by omega) hn hs hfit (by simpa [isF] using hF) (by simp [octsN_length]; omega) hg S3.d1.d1
      rw [if_neg k3] at hg
      refine ifF (by simp [k3]) ?_
      by_cases k4 : c = 102
      · subst k4
        rw [if_pos rfl] at hg
        rw [if_pos (.inr rfl)] at hfit
        rw [show isF 102 = true from rfl, if_pos rfl] at hF
        have j5 : ∀ (p : OA) (l cc : Nat) (out2 : Oct) (h' : Heap), out2.length ≤ out.length + 2147483648 → out2 = (if decide (0 < i ∧ f[i - 1]? = some 102) = true then out else out ++ packGo (List.take (flagsP (102 :: f.drop (i + 1))) (x.F.drop fc)) 0 []) →
            St (Ow 1 (p, l, cc) (u8s out2) :: Bx m (mcells a b y) :: L) h' → qab.j5 K (qab.L3 K fuel) p l cc m f n s fc i h' := by
          intro p l cc out2 h' h1 h2 S'
          unfold qab.j5
          simp only [bd]
          rw [wsucc (by omega)]
          refine j4 n s (fc + 1) p l cc out2 h' (by omega) hn hs hfit (by omega) h1 ?_ S'
          rw [← h2] at hg
          simp only [List.tail_drop] at hg
          exact hg
        have j6 : ∀ bb : Bool, bb = !decide (0 < i ∧ f[i - 1]? = some 102) → qab.j6 K (qab.L3 K fuel) o.1 o.2.1 o.2.2 m f n s fc i bb h := by
          intro bb eb
          unfold qab.j6
          cases hp : decide (0 < i ∧ f[i - 1]? = some 102) with
          | true =>
            rw [hp] at eb
            subst eb
            exact ifF rfl (j5 _ _ _ out h (by omega) (by rw [hp]; rfl) S)
          | false =>
            rw [hp] at eb
            subst eb
            refine ifT rfl ?_
            simp only [rdS (S.rc m 4 rfl)]
            refine rflagsS (y := y.f) (fl := x.F) (from' := fc) (at' := i) (f := f) S (by omega) (by omega) hi (by omega) fun p1 l1 c1 h1 S1 => ⟨_, _, _, rfl, ?_⟩
            have hpl := packGo_len ((x.F.drop fc).take (flagsP (f.drop i))) 0 []
            simp only [List.length_nil, Nat.zero_add, List.length_take, List.length_drop] at hpl
            refine appS (s := o) (bs := out) S1 (Src.slice S1.sl (u8s_one _)) (by omega) fun p l cc h2 S2 => ⟨_, _, _, rfl, j5 p l cc (out ++ packGo ((x.F.drop fc).take (flagsP (f.drop i))) 0 []) h2 ?_ ?_ ?_⟩
            · simp only [List.length_append]; omega
            · rw [hp, dropKeep]; rfl
            · exact S2.d1
        refine ifT rfl ?_
        by_cases h0 : i = 0
        · exact ifT' (by simp [h0]) (j6 true (by simp [h0]))
        · have ew : IntKind.i64.wrap ((i : Int) - 1) = ((i - 1 : Nat) : Int) := by rw [wrapI (by omega) (by omega)]; omega
          rw [ew]
          refine ifF' (by simp; omega) ⟨by omega, by omega, ?_⟩
          rw [e102' (by omega)]
          exact j6 _ rfl
      rw [if_neg k4] at hg
      refine ifF (by simp [k4]) ?_
      have hd := hc.digit n5 n8 k3 k4
      have hdn := digit_nat hd
      have k5 : ¬ (c = 116 ∨ c = 102) := by rintro (e | e); exact k3 e; exact k4 e
      have kF : isF c = false := by simp [isF, k4]
      rw [if_neg k5] at hfit
      rw [kF] at hF
      by_cases hlen : n ≥ x.N.length
      · rw [List.drop_eq_nil_of_le hlen] at hfit
        cases hfit
      have hnd : x.N.drop n = x.N[n]'(by omega) :: x.N.drop (n + 1) := List.drop_eq_getElem_cons (by omega)
      rw [hnd] at hfit hg
      simp only [Bool.and_eq_true, List.headD_cons, List.tail_cons] at hfit hg
      have cell : ∃ q, y.n.1 = some q ∧ (0 : Int) ≤ (n : Int) ∧ (n : Int) < ((y.n.2.1 : Nat) : Int) ∧ hcell h (q.add (Int.toNat (n : Int) * 1)) = some (.int .u64 ((x.N[n]'(by omega) : Nat) : Int)) :=
        ixV (i := (n : Int)) (n := n) (w := .int .u64 ((x.N[n]'(by omega) : Nat) : Int)) (S.isl 1 y.n) rfl (by simp only [nums, List.getElem?_map, List.getElem?_eq_getElem (show n < x.N.length by omega), Option.map_some]) fun q _ cq => cq
      obtain ⟨q, eq, c1, c2, cq⟩ := cell
      have put : CallsH P F.qbh [.slice o.1 o.2.1 o.2.2, .int .i64 ((c.toNat - 48 : Nat) : Int), .int .u64 ((x.N[n]'(by omega) : Nat) : Int)] (fun v h' => ∃ p l cc, v = .slice p l cc ∧ qab.j7 K (qab.L3 K fuel) p l cc m f n s fc i h') h := by
        refine rputS (s := o) S S.sl (by omega) (by omega) fun p l cc h2 S2 => ⟨_, _, _, rfl, ?_⟩
        unfold qab.j7
        simp only [bd]
        rw [wsucc (by omega)]
        exact j4 (n + 1) s fc p l cc _ h2 (by omega) (by omega) hs hfit.2 (by simpa using hF) (by simp [octsN_length]; omega) (by rw [decide_eq_false k4]; exact hg) S2.d1
      have hsz : ∀ {K : KT}, K (.int .i64 ((c.toNat - 48 : Nat) : Int)) h → CallsH P F.qbd [.int .u8 (c.toNat : Int)] K h := fun hK => sizeS hd hK
      refine ⟨hsz ⟨_, rfl, ?_⟩, ?_⟩
      · simp only [rdS (S.rc m 2 rfl)]
        refine ⟨q, eq, c1, c2, ?_⟩
        simp only [rdN cq]
        exact put
      · simp only [rdS (S.rc m 2 rfl)]
        refine ⟨q, eq, c1, c2, hsz ⟨_, rfl, ?_⟩, ?_⟩
        · simp only [rdN cq]
          exact put
        · simp only [rdN cq]
          exact hsz ⟨_, rfl, put⟩
    · refine ifF (by simp; omega) (hK _ _ _ h ?_)
      rw [List.drop_eq_nil_of_le (by omega)] at hg
      simp only [wr] at hg
      subst hg
      exact S.d1
theorem rmethS {t : SV} {bs : Oct} {a b : Int} {y : MV} {x : PM} {B : Nat → Prop} (S : St L h) [mt : In (fun b => Im 1 t (u8s b)) L bs] [In (Im 1 y.n) L (nums x.N)] [In (Im 1 y.s) L (strs x.S)] [In (Im 1 y.f) L (bools x.F)] [In (Tb B y.t) L x.T]
    (hx : x.N.length < 1000000 ∧ x.S.length < 1000000 ∧ x.F.length < 1000000) (h64 : ∀ v ∈ x.N, v < 18446744073709551616) (hsl : ∀ s ∈ x.S, s.length < 1073741824) (hw : wtD 8 x.T ≤ 67108864) (hb : bs.length < 1073741824)
    (hK : ∀ p l c h', St (Im 1 (p, l, c) (u8s (bs ++ (methW a b x).getD [])) :: L) h' → K (.tuple #[.slice p l c, .bool (methW a b x).isSome]) h') :
    CallsH P F.qab [.slice t.1 t.2.1 t.2.2, .agg (List.toArray (mcells a b y))] K h := by
  refine qab.ok ?_
  unfold qab.p0
  simp only [bd]
  have S1 := S.al (mcells a b y) T.api_Method
  have hIm := isl8 S (s := t) (bs := bs)
  generalize al h (mcells a b y).toArray T.api_Method = h1 at *
  generalize top h = m at *
  simp only [rdN (S1.rc m 0 rfl), rdN (S1.rc m 1 rfl)]
  have no : methW a b x = none → ∀ h', St (Bx m (mcells a b y) :: L) h' → ∀ f, qab.j1 K t.1 t.2.1 t.2.2 m f true h' := by
    intro e h' S' f
    rw [e] at hK
    unfold qab.j1
    refine ifT rfl (hK _ _ _ h' ?_)
    simp only [Option.getD_none, List.append_nil]
    exact S'.tl.dup mt.mem (Im.lc 1 t (u8s bs))
  refine refForm.spec ⟨_, _, rfl, ?_⟩
  cases hf : formP (a, b) with
  | none => exact ifT' rfl (no (by unfold methW; rw [hf]) h1 S1 _)
  | some f =>
    refine ifF' rfl ?_
    simp only [rdC' (S1.rall m 6 rfl), Option.getD_some]
    have nf := formP_nice hf
    have em := methW_eq x hf
    refine fitsS (B := B) S1 nf hx h64 hw fun h2 S2 => ⟨_, rfl, ?_⟩
    cases hfit : fitsP f x with
    | false =>
      rw [hfit, if_neg (by decide)] at em
      exact no em h2 S2 f
    | true =>
      rw [hfit, if_pos rfl] at em
      rw [em] at hK
      simp only [Option.getD_some, Option.isSome_some] at hK
      unfold fitsP at hfit
      simp only [Bool.and_eq_true, decide_eq_true_eq] at hfit
      unfold qab.j1
      refine ifF rfl ?_
      have j2 : ∀ p l c h', St (Ow 1 (p, l, c) (u8s (bs ++ octsN 2 (nat64 a) ++ octsN 2 (nat64 b))) :: Bx m (mcells a b y) :: L) h' → qab.j2 K p l c m f h' := by
        intro p l c h' S'
        unfold qab.j2
        refine ⟨_, method_loop (B := B) (res := bs ++ wr false f (octsN 2 (nat64 a) ++ octsN 2 (nat64 b), x)) nf hx hsl hw hfit.2 (fun p l c h' S' => hK p l c h' S'.im) _ 0 0 0 0 (p, l, c) _ h' (Nat.lt_succ_self _) (Nat.zero_le _) (by omega) (Nat.zero_le _) (Nat.zero_le _) ?_ ?_ ?_ ?_ S'⟩
        · simpa using hfit.1.1.1
        · simpa using hfit.1.1.2
        · simp [octsN_length]; omega
        · rw [← wr_app, List.append_assoc]
          rfl
      have two : ∀ (K' : KT), (∀ p l c h', St (Ow 1 (p, l, c) (u8s (bs ++ octsN 2 (nat64 a))) :: Bx m (mcells a b y) :: L) h' → K' (.slice p l c) h') → CallsH P F.qbh [.slice t.1 t.2.1 t.2.2, .int .i64 2, .int .u64 (nat64 a : Int)] K' h2 :=
        fun K' hK' => rputS (s := t) (n := 2) S2 (isl8 S2 (s := t) (bs := bs)).1 (by omega) (by omega) hK'
      have three : ∀ p l c h', St (Ow 1 (p, l, c) (u8s (bs ++ octsN 2 (nat64 a))) :: Bx m (mcells a b y) :: L) h' → CallsH P F.qbh [.slice p l c, .int .i64 2, .int .u64 (nat64 b : Int)] (fun v h' => ∃ p l c, v = .slice p l c ∧ qab.j2 K p l c m f h') h' :=
        fun p l c h' S' => rputS (s := (p, l, c)) (n := 2) S' S'.sl (by simp [octsN_length]; omega) (by omega) fun p2 l2 c2 h3 S3 => ⟨_, _, _, rfl, j2 p2 l2 c2 h3 S3.d1⟩
      simp only [rdN (S2.rc m 0 rfl), rdN (S2.rc m 1 rfl), wrap_nat64]
      refine ⟨⟨two _ fun p l c h' S' => ⟨_, _, _, rfl, ?_⟩, two _ fun p l c h' S' => ⟨_, _, _, rfl, three p l c h' S'⟩⟩, two _ fun p l c h' S' => ⟨_, _, _, rfl, three p l c h' S'⟩⟩
      simp only [rdN (S'.rc m 1 rfl), wrap_nat64]
      exact three p l c h' S'
end
end Go.Proofs.YtjapglfpjhljpaaGreat.Pr
end
