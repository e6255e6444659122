/- methBack_holds: all that the theorem needs, in a few texts (bundle.py; made of the texts that NOTES.md names). -/
import Derived.Below
import Derived.Carry
import Derived.ChangeOld
import Derived.ChangeShapes
import Derived.KernelRfl
import Derived.Laws.Append
import Derived.Laws.Bits64
import Derived.Laws.BitsAllLaws
import Derived.Laws.BitsLemmas
import Derived.Laws.IdiomStrings
import Derived.Laws.Sem
import Derived.Laws.Strings
import Derived.LoopN
import Derived.MapKept
import Derived.OpenShut
import Derived.Orders
import Derived.Test.YtjkiaeccjelklaaChecked
import Derived.WideLaws
import Derived.WideShapes
import Derived.Test.YtjkiaeccjelklaaBMethBackUpto1
import Derived.Test.YtjkiaeccjelklaaBMethBackUpto2
import Derived.Test.YtjkiaeccjelklaaBMethBackUpto3
import Derived.Test.YtjkiaeccjelklaaBMethBackUpto4
import Derived.Test.YtjkiaeccjelklaaBMethBackUpto5
import Derived.Test.YtjkiaeccjelklaaBMethBackUpto6
import Derived.Test.YtjkiaeccjelklaaBMethBackUpto7
import Derived.Test.YtjkiaeccjelklaaBMethBackUpto8
import Derived.Test.YtjkiaeccjelklaaBMethBackUpto9
section
set_option linter.unusedVariables false
set_option linter.unusedSimpArgs false
namespace Go.Proofs.Ytjkiaeccjelklaa.Pr
open Go Go.Lift Go.Proofs
section
variable {K : KT} {L R : List Asr} {h : Heap}
theorem mcells_one (a b : Int) (y : MV) : ∀ w ∈ mcells a b y, one w = true := by
  intro w hw; simp [mcells] at hw; rcases hw with rfl | rfl | rfl | rfl | rfl | rfl <;> rfl
theorem letter_of {c : UInt8} (h : letterD c) (h1 : c ≠ 102) : letter c := by
  rcases h with e | e | e | e | e | e | e | e
  · exact absurd e h1
  · exact .inl e
  · exact .inr (.inl e)
  · exact .inr (.inr (.inl e))
  all_goals (subst e; exact .inr (.inr (.inr (by decide))))
theorem formW_len : ∀ (k : Nat) (f : Oct) (z z' : Oct × PM), (∀ c ∈ f, letterD c) → f.length < 16 → smallM z.2 → formW k f z = some z' → z'.1.length ≤ z.1.length + f.length * 1073741832
  | 0, _, _, _, _, _, _, h => by unfold formW at h; cases h
  | k + 1, f, z, z', hf, hl, hz, h => by
    unfold formW at h
    by_cases f0 : f = []
    · rw [if_pos f0] at h
      cases h; omega
    rw [if_neg f0] at h
    have fl := flagsP_le f
    by_cases hp : 0 < flagsP f
    · rw [if_pos hp] at h
      cases e : packW (flagsP f) z with
      | none => rw [e] at h; cases h
      | some y =>
        rw [e, Option.bind_some] at h
        have a := packW_small hz e (by omega)
        have := formW_len k _ y z' (fun c hc => hf c (List.mem_of_mem_drop hc)) (by rw [List.length_drop]; omega) a.1 h
        rw [List.length_drop] at this
        omega
    · rw [if_neg hp] at h
      obtain ⟨c, r, rfl⟩ := List.exists_cons_of_ne_nil f0
      have hc102 : c ≠ 102 := by
        intro e
        apply hp
        unfold flagsP
        rw [if_pos e]; omega
      have e0 : (c :: r).getD 0 0 = c := rfl
      have dr : (c :: r).drop 1 = r := rfl
      rw [e0, dr] at h
      cases e : oneW c z with
      | none => rw [e] at h; cases h
      | some y =>
        rw [e, Option.bind_some] at h
        have a := oneW_small hz e (letter_of (hf c (List.mem_cons_self ..)) hc102)
        have := formW_len k r y z' (fun c hc => hf c (List.mem_cons_of_mem _ hc)) (by simp at hl; omega) a.1 h
        simp only [List.length_cons]
        omega
theorem methW_len {a b : Int} {x : PM} {o : Oct} (hx : smallM x) (h : methW a b x = some o) : o.length < 500000000000 := by
  unfold methW at h
  cases hf : formP (a, b) with
  | none => rw [hf] at h; cases h
  | some f =>
    rw [hf] at h
    simp only at h
    have nf := formP_nice hf
    cases hw : formW (f.length + 1) f (octsN 2 (nat64 a) ++ octsN 2 (nat64 b), x) with
    | none => rw [hw] at h; cases h
    | some z =>
      rw [hw] at h
      simp only at h
      have := formW_len _ f _ z nf.1 nf.2.2 hx hw
      have n3 := nf.2.2
      simp only [List.length_append, octsN_length] at this
      split at h
      · cases h; omega
      · cases h
theorem back_j2 {sb : SV} {o : Oct} (S : St L h) [In (fun b => Im 1 sb (u8s b)) L o] (hl : 0 < o.length ∧ o.length < 500000000000) (more : methP (o ++ [0]) = .inl 4) (less : methP (o.take (o.length - 1)) = .inl 4) (hK : ∀ h', St L h' → K (.bool true) h') :
    qaj.j2 K sb.1 sb.2.1 sb.2.2 false h := by
  have hs := isl8 S (s := sb) (bs := o)
  have ln : o.length = sb.2.1 := by have := hs.1.1; simpa [u8s] using this
  unfold qaj.j2
  refine ifF rfl ?_
  simp only [bd]
  have S1 : St (Ow 1 (some (top h), 0, 0) (u8s []) :: L) (al h #[] T.uint8) := (S.al [] T.uint8).bxOw (sz := 1) (by simp)
  generalize al h #[] T.uint8 = h1 at *
  have hs1 := isl8 S1 (s := sb) (bs := o)
  refine appS (s := (some (top h), 0, 0)) (bs := []) (ws := o) S1 (Src.slice hs1.1 (u8s_one _)) (by simp; omega) fun p l c h2 S2 => ⟨_, _, _, rfl, ?_⟩
  refine app1S (o := (p, l, c)) (x := 0) S2 (by simp; omega) fun p l c h3 S3 => ⟨_, _, _, rfl, ?_⟩
  rw [List.nil_append] at S3
  have S4 := S3.fz 1 (p, l, c)
  refine methS (s := (p, l, c)) (bs := o ++ [0]) S4 (by simp; omega) fun y B h4 S5 => ⟨_, _, rfl, ?_⟩
  rw [more]
  have S6 := S5.al (mcells 0 0 mnil) T.api_Method
  refine ⟨rfl, S6.putA (top h4) (ws := mcells (resM (.inl 4)).1 (resM (.inl 4)).2.1 y) rfl (mcells_one _ _ _) fun h5 S7 => ?_⟩
  have ew : IntKind.i64.wrap (((sb.2.1 : Nat) : Int) - 1) = ((o.length - 1 : Nat) : Int) := by rw [IntKind.wrap_i64]; omega
  rw [ew, slA_zero]
  refine ⟨⟨by omega, by have := hs.2; omega⟩, ?_⟩
  haveI : In (Im 1 sb) (Bx (top h4) (mcells (resM (.inl 4)).1 (resM (.inl 4)).2.1 y) :: Im 1 y.n (nums (resM (methP (o ++ [0]))).2.2.N) :: Im 1 y.s (strs (resM (methP (o ++ [0]))).2.2.S) :: Im 1 y.f (bools (resM (methP (o ++ [0]))).2.2.F) :: Tb B y.t (resM (methP (o ++ [0]))).2.2.T :: Im 1 (p, l, c) (u8s (o ++ [0])) :: L) (u8s o) := ⟨by
    have m : Im 1 sb (u8s o) ∈ L := (inferInstance : In (fun b => Im 1 sb (u8s b)) L o).mem
    simp [m]⟩
  have S8 := S7.itake sb (n := o.length - 1) (by omega)
  have et : (u8s o).take (o.length - 1) = u8s (o.take (o.length - 1)) := by simp [u8s, List.map_take]
  rw [et] at S8
  refine methS (s := (sb.1, o.length - 1, sb.2.2)) (bs := o.take (o.length - 1)) S8 (by simp; omega) fun y2 B2 h6 S9 => ⟨_, _, rfl, ?_⟩
  rw [less]
  have S10 := S9.al (mcells 0 0 mnil) T.api_Method
  refine ⟨rfl, S10.putA (top h6) (ws := mcells (resM (.inl 4)).1 (resM (.inl 4)).2.1 y2) rfl (mcells_one _ _ _) fun h7 S11 => ?_⟩
  exact ifT rfl (ifT rfl (awakeS S11 fun h8 S12 => ⟨_, rfl, hK h8 S12.to⟩))
theorem MethBack.law (a : Int) (wa : -9223372036854775808 ≤ a ∧ a < 9223372036854775808) (sn : SV) (xn : List Int) (ln : Sl 1 h sn.1 sn.2.1 (xn.map fun n => .int .u64 n)) (le1 : sn.2.1 ≤ sn.2.2) (mx1 : sn.2.2 ≤ maxLen) (wn : ∀ x ∈ xn, (Lit.int .u64 x).wf = true)
    (ss : SV) (xs : List Oct) (ls : Sl 1 h ss.1 ss.2.1 (xs.map fun l => .string (mkS l))) (le2 : ss.2.1 ≤ ss.2.2) (mx2 : ss.2.2 ≤ maxLen) (ws : ∀ x ∈ xs, x.length ≤ maxLen) (f : Int) (wf : -9223372036854775808 ≤ f ∧ f < 9223372036854775808)
    (t : SV) (fs : List PF) (B : Nat → Prop) (hB : ∀ b, B b → b < h.size) (le3 : t.2.1 ≤ t.2.2) (d : Nat) (tr : TRep d B h t.1 t.2.1 fs) (hw : ∀ e, wtD e fs ≤ 67108864) (hi : i64P 8 fs) :
    CallsH P F.qaj [.int .i64 a, sn.v, ss.v, .int .i64 f, t.v] (fun v h' => v = .bool true ∧ Kept h h') h := by
  refine qaj.ok ?_
  unfold qaj.p0
  have fin : ∀ {L : List Asr} {h1 : Heap}, St L h1 → Old h ∈ L → CallsH P F.qbe [] (fun v h' => ∃ b, v = .bool b ∧ (Value.bool b = .bool true ∧ Kept h h')) h1 := fun S m => awakeS S fun h' S' => ⟨_, rfl, rfl, S'.keptOld m⟩
  by_cases hl : ss.2.1 > 30
  · refine ifT' (by simp; omega) ?_
    unfold qaj.j1
    exact ifT rfl (fin (St.old h) (List.mem_cons_self ..))
  refine ifF' (by simp; omega) ?_
  have en : (xn.map fun n : Int => Value.int .u64 n) = nums (xn.map Int.toNat) := by
    unfold nums
    rw [List.map_map]
    refine List.map_congr_left fun x hx => ?_
    have := wf_u64 (wn x hx)
    simp only [Function.comp]
    congr 1
    omega
  rw [en] at ln
  have hn : ∀ v ∈ xn.map Int.toNat, v < 18446744073709551616 := by
    intro v hv
    obtain ⟨x, hx, rfl⟩ := List.mem_map.1 hv
    have := wf_u64 (wn x hx)
    omega
  generalize xn.map Int.toNat = n at *
  have St0 : St [Tb B t fs, Old h] h := (St.old h).sh_sub (List.mem_cons_self ..) hB (Tb.lc B t fs) ⟨le3, d, tr⟩
  have S0 : St [Im 1 sn (nums n), Im 1 ss (strs xs), Tb B t fs, Old h] h := (St0.imOld (by simp) ls le2).imOld (by simp) ln le1
  refine smallS (B := B) (t := t) (fs := fs) S0 fun h0 S0 => ⟨_, rfl, ?_⟩
  unfold qaj.j1
  cases hsm : smallT 12 fs with
  | false => exact ifT rfl (fin S0 (by simp))
  | true =>
  refine ifF rfl ?_
  have hT : ∀ {L' : List Asr} {K : KT} {h : Heap}, St L' h → Tb B t fs ∈ L' → (∀ h', St L' h' → K (.bool (tableOkP fs)) h') → CallsH P F.qba [.slice t.1 t.2.1 t.2.2] K h := by
    intro L' K h S m hK
    haveI : In (Tb B t) L' fs := ⟨m⟩
    exact rtokS (B := B) S (hw 8) hK
  refine madeS (B0 := B) (tok := tableOkP fs) (t := t) (tt := fs) S0 hn hT fun y B1 h1 S1 => ⟨_, rfl, ?_⟩
  have hf := madeC_form a
  have hg := madeC_good a
  have hr := madeC_rng a
  have c64 := madeF_N64 n hn xs f fs (tableOkP fs) (madeC a).2
  have hlen := madeF_len n xs f fs (tableOkP fs) (madeC a).2
  have hok := made_ok (a := a) (n := n) (s := xs) (f := f) (t := fs)
  generalize madeC a = C at *
  obtain ⟨⟨ca, cb⟩, form⟩ := C
  simp only at *
  generalize madeF n xs f fs (tableOkP fs) form = x at *
  obtain ⟨o, ho⟩ := Option.isSome_iff_exists.1 hok.1
  have hx : x.N.length < 16 ∧ x.S.length < 16 ∧ x.F.length < 16 := by have := hg.2; omega
  have sT : smallP 8 x.T := by
    rcases hok.2 with e | e <;> rw [e]
    · exact smallT_P 12 fs hsm 8
    · intro f hf; cases hf
  have iT : i64P 8 x.T := by
    rcases hok.2 with e | e <;> rw [e]
    · exact hi
    · intro f hf; cases hf
  have wT : ∀ e, wtD e x.T ≤ 67108864 := by
    rcases hok.2 with e | e <;> rw [e]
    · exact hw
    · intro e; cases e <;> simp [wtD]
  have lT : x.T.length < 1000000 := by
    have := Nat.le_trans (wtD_len (d := 0) (fs := x.T)) (wT 1)
    rcases hok.2 with e | e <;> rw [e]
    · have := smallT_len hsm; omega
    · decide
  have hS : ∀ v ∈ x.S, v.length < 4294967296 := fun v hv => by have := c64.2 v hv; omega
  have sx : smallM x := ⟨by omega, c64.1, by omega, fun s hs => by have := c64.2 s hs; omega, by omega, sT, lT⟩
  obtain ⟨back, w, ow⟩ := meth_backT (a := ca) (b := cb) (by omega) (by omega) iT c64.1 hS ho
  simp only [bd]
  have S2 := S1.al (mcells 0 0 mnil) T.api_Method
  refine ⟨rfl, S2.putA (top h1) (ws := mcells ca cb y) rfl (mcells_one _ _ _) fun h3 S3 => ?_⟩
  generalize top h1 = m at *
  simp only [rdC' (S3.rall m 6 rfl)]
  have S4 : St (Im 1 (none, 0, 0) (u8s []) :: Bx m (mcells ca cb y) :: Im 1 y.n (nums x.N) :: Im 1 y.s (strs x.S) :: Im 1 y.f (bools x.F) :: Tb B1 y.t x.T :: [Im 1 sn (nums n), Im 1 ss (strs xs), Tb B t fs, Old h]) h3 := (show St (Im 1 (none, 0, 0) (u8s []) :: _) h3 from (((S3.fz 1 y.n).fz 1 y.s).fz 1 y.f).imNil 1 0).to
  refine mappS (t := (none, 0, 0)) (bs := []) (B := B1) (y := y) (x := x) S4 sx (by decide) (by omega) (by omega) fun p l c h4 S5 => ⟨_, _, _, _, rfl, ?_⟩
  rw [ho] at S5 ⊢
  simp only [Option.getD_some, Option.isSome_some, List.nil_append] at S5 ⊢
  have lo := methW_len sx ho
  have S6 := S5.fz 1 (p, l, c)
  refine methS (s := (p, l, c)) (bs := o) S6 (by omega) fun y2 B2 h5 S7 => ⟨_, _, rfl, ?_⟩
  rw [back] at S7 ⊢
  simp only [resM, resE] at S7 ⊢
  have S8 := S7.al (mcells 0 0 mnil) T.api_Method
  refine ⟨rfl, S8.putA (top h5) (ws := mcells ca cb y2) rfl (mcells_one _ _ _) fun h6 S9 => ?_⟩
  generalize top h5 = m2 at *
  refine ifF' rfl (ifF' rfl ?_)
  simp only [rdC' (S9.rall m 6 rfl), rdC' (S9.rall m2 6 rfl)]
  have hTab : ∀ {L0 : List Asr} [In (Tb B1 y.t) L0 x.T] [In (Tb B2 y2.t) L0 x.T] {K : KT} {L' : List Asr} {h' : Heap}, St (L' ++ L0) h' → (∀ h2, St (L' ++ L0) h2 → K (.bool true) h2) → CallsH P F.qaa [.slice y.t.1 y.t.2.1 y.t.2.2, .slice y2.t.1 y2.t.2.1 y2.t.2.2] K h' := by
    intro L0 i1 i2 K L' h' S' k
    haveI : In (Tb B1 y.t) (L' ++ L0) x.T := ⟨List.mem_append_right L' i1.mem⟩
    haveI : In (Tb B2 y2.t) (L' ++ L0) x.T := ⟨List.mem_append_right L' i2.mem⟩
    exact sameTabS (Bf := B1) (Bg := B2) S' wT fun h2 b hb S2 => by
      obtain rfl := hb.2 rfl
      exact k h2 S2
  refine sameMS (y := y) (z := y2) (x := x) (w := x) (bt := true) S9 ⟨by omega, by omega, by omega⟩ hTab fun h7 S10 => ⟨_, rfl, ?_⟩
  refine ifF' (by simp) ?_
  have sl := isl8 S10 (s := (p, l, c)) (bs := o)
  have ll : l = o.length := by have := sl.1.1; simp [u8s] at this; omega
  have e4 : o.length = 4 + w.length := by rw [ow]; simp [octsN_length]; omega
  refine ifF' (by simp; omega) ?_
  have ea : (((UInt8.ofNat (nat64 ca / 256 ^ 0)).toNat : Nat) : Int) = ca := by rw [UInt8.toNat_ofNat']; unfold nat64; omega
  have eb : (((UInt8.ofNat (nat64 cb / 256 ^ 0)).toNat : Nat) : Int) = cb := by rw [UInt8.toNat_ofNat']; unfold nat64; omega
  have g1 : (u8s o)[1]? = some (.int .u8 ca) := by
    conv => rhs; rw [← ea]
    rw [ow]; rfl
  have g3 : (u8s o)[3]? = some (.int .u8 cb) := by
    conv => rhs; rw [← eb]
    rw [ow]; rfl
  refine ixV (i := 1) (n := 1) sl.1 rfl g1 fun q eq cq => ?_
  simp only [rdN cq, rdN (S10.rc m 0 rfl)]
  have wrp : ∀ v : Int, 0 ≤ v → v < 256 → IntKind.i64.wrap v = v := fun v h1 h2 => by rw [IntKind.wrap_i64]; omega
  refine ifF' (by rw [wrp ca (by omega) (by omega)]; simp) ?_
  refine ixV (i := 3) (n := 3) sl.1 rfl g3 fun q eq cq => ?_
  simp only [rdN cq, rdN (S10.rc m 1 rfl)]
  rw [wrp cb (by omega) (by omega), show (cb != cb) = false by simp]
  refine back_j2 (sb := (p, l, c)) (o := o) S10 ⟨by omega, by omega⟩ (methP_more back (by simp)) ?_ fun h8 S11 => ⟨rfl, S11.keptOld (by simp)⟩
  have on : o ≠ [] := by intro e; rw [e] at e4; simp at e4; omega
  rw [← List.dropLast_eq_take]
  exact methP_less (x := o.getLast on) (by rw [List.dropLast_concat_getLast]; exact back)
end
end Go.Proofs.Ytjkiaeccjelklaa.Pr
end
