/- connsEnds_holds: all that the theorem needs, in a few texts (bundle.py; made of the texts that NOTES.md names). -/
import Derived.Below
import Derived.Carry
import Derived.ChangeOld
import Derived.ChangeShapes
import Derived.KernelRfl
import Derived.Laws.Append
import Derived.Laws.Bits64
import Derived.Laws.BitsAllLaws
import Derived.Laws.BitsLemmas
import Derived.Laws.IdiomStrings
import Derived.Laws.Sem
import Derived.Laws.Strings
import Derived.Laws.StructEq
import Derived.Lib.ItoaNum
import Derived.Lib.SlBytesConst
import Derived.LoopIn
import Derived.LoopN
import Derived.LoopNIn
import Derived.MapKept
import Derived.Maps.AppendAt
import Derived.OpenShut
import Derived.Orders
import Derived.OwnWalkIn
import Derived.RangeFuncGives
import Derived.RangeFuncSeq
import Derived.RegionIn
import Derived.Shelf.Abstract
import Derived.Shelf.Lay
import Derived.Shelf.SlIter.Collect
import Derived.Shelf.Small.Bits
import Derived.Sort.KeysCollected
import Derived.Sort.MapsRangeIn
import Derived.TacticsInMore
import Derived.Test.YtjapglfpjhljpaaGreatChecked
import Derived.WalkKit
import Derived.WideLaws
import Derived.WideShapes
import Derived.Test.YtjapglfpjhljpaaGreatBConnsEnds1
import Derived.Test.YtjapglfpjhljpaaGreatBConnsEnds2
import Derived.Test.YtjapglfpjhljpaaGreatBConnsEnds3
import Derived.Test.YtjapglfpjhljpaaGreatBConnsEnds4
import Derived.Test.YtjapglfpjhljpaaGreatBConnsEnds5
import Derived.Test.YtjapglfpjhljpaaGreatBConnsEnds6
import Derived.Test.YtjapglfpjhljpaaGreatBConnsEnds7
import Derived.Test.YtjapglfpjhljpaaGreatBConnsEnds8
import Derived.Test.YtjapglfpjhljpaaGreatBConnsEnds9
import Derived.Test.YtjapglfpjhljpaaGreatBConnsEnds10
import Derived.Test.YtjapglfpjhljpaaGreatBConnsEnds11
import Derived.Test.YtjapglfpjhljpaaGreatBConnsEnds12
import Derived.Test.YtjapglfpjhljpaaGreatBConnsEnds13
import Derived.Test.YtjapglfpjhljpaaGreatBConnsEnds14
import Derived.Test.YtjapglfpjhljpaaGreatBConnsEnds15
import Derived.Test.YtjapglfpjhljpaaGreatBConnsEnds16
import Derived.Test.YtjapglfpjhljpaaGreatBConnsEnds17
import Derived.Test.YtjapglfpjhljpaaGreatBConnsEnds18
import Derived.Test.YtjapglfpjhljpaaGreatBConnsEnds20
import Derived.Test.YtjapglfpjhljpaaGreatBConnsEnds21
section
set_option linter.unusedVariables false
set_option linter.unusedSimpArgs false
namespace Go.Proofs.YtjapglfpjhljpaaGreat.Pr
open Go Go.Lift Go.Proofs
inductive Frs : Oct → Prop
  | nil : Frs []
  | cons (k ch : Nat) (b o : Oct) : fkindP k = true → 0 < ch → ch < 65536 → b.length ≤ 4088 → Frs o → Frs (frW k ch b ++ o)
theorem Frs.app {o p : Oct} (a : Frs o) (b : Frs p) : Frs (o ++ p) := by
  induction a with
  | nil => exact b
  | cons k ch x o h1 h2 h3 h4 h5 ih => rw [List.append_assoc]; exact .cons k ch x _ h1 h2 h3 h4 ih
theorem Frs.one {k ch : Nat} {b : Oct} (h1 : fkindP k = true) (h2 : 0 < ch) (h3 : ch < 65536) (h4 : b.length ≤ 4088) : Frs (frW k ch b) := by
  have := Frs.cons k ch b [] h1 h2 h3 h4 .nil
  rwa [List.append_nil] at this
theorem Frs.bod {ch : Nat} (h2 : 0 < ch) (h3 : ch < 65536) : ∀ (k : Nat) (b : Oct), Frs (bodW ch k b)
  | 0, b => .nil
  | k + 1, b => by
    unfold bodW
    split
    · exact .nil
    · exact .cons 3 ch _ _ (by decide) h2 h3 (by rw [List.length_take]; omega) (Frs.bod h2 h3 k _)
def SmP (m : PMM) : Prop := SmM m.1 m.2.1 m.2.2
theorem SmP.ite {c : Prop} [Decidable c] {a b : PMM} (ha : c → SmP a) (hb : ¬ c → SmP b) : SmP (if c then a else b) := by
  by_cases h : c
  · rw [if_pos h]; exact ha h
  · rw [if_neg h]; exact hb h
theorem SmP.mk {a b : Int} {x : PM} (m : SmM a b x) : SmP (a, b, x) := m
theorem octM_sm (x : CL) (h : x.kn ≤ 25) : SmP (octM x) := by
  have hA := x.A_len
  have hB := x.B_len
  have hC := x.C_len
  unfold octM
  dsimp only
  refine SmP.ite (fun _ => SmP.mk ⟨by decide, by decide, rfl, by simp, by simp [hA, hB], by simp⟩) fun n1 => ?_
  refine SmP.ite (fun _ => SmP.mk ⟨by decide, by decide, rfl, by simp, by simp [hA], by simp [flB_len, flags3]⟩) fun n2 => ?_
  refine SmP.ite (fun _ => SmP.mk ⟨by decide, by decide, rfl, by simp, ⟨by simp, fun s hs => ?_⟩, by simp [flB_len, flags3]⟩) fun n3 => ?_
  · rcases List.mem_cons.1 hs with rfl | hs
    · exact hA
    · rcases List.mem_cons.1 hs with rfl | hs
      · exact kinds4_len _ hB _
      · cases hs
  refine SmP.ite (fun _ => SmP.mk ⟨by decide, by decide, rfl, by simp, by simp [hA, hB, hC], by simp [flB_len]⟩) fun n4 => ?_
  refine SmP.ite (fun _ => SmP.mk ⟨by decide, by decide, rfl, by simp, by simp [hA, hB], by simp⟩) fun n5 => ?_
  refine SmP.ite (fun _ => SmP.mk ⟨by decide, by decide, rfl, by simp, by simp [hA], by simp [flB_len]⟩) fun n6 => ?_
  refine SmP.ite (fun _ => SmP.mk <| sm1 (by decide) (by decide) (by simp [flB_len])) fun n7 => ?_
  refine SmP.ite (fun _ => SmP.mk <| sm1 (by decide) (by decide) (by simp [flB_len])) fun n8 => ?_
  refine SmP.ite (fun _ => SmP.mk <| sm1 (by decide) (by decide) (by simp [flB_len])) fun n9 => ?_
  refine SmP.ite (fun _ => SmP.mk <| sm2 (by decide) (by decide) (by simp [flB_len])) fun n10 => ?_
  have hr : ∀ k : Nat, 0 ≤ ([10, 20, 20, 30] : List Int).getD k 0 ∧ ([10, 20, 20, 30] : List Int).getD k 0 < 65536 := by
    intro k
    match k with
    | 0 => decide
    | 1 => decide
    | 2 => decide
    | 3 => decide
    | k + 4 => simp
  refine SmP.ite (fun _ => SmP.mk ⟨by decide, hr _, rfl, by decide, by decide, by decide⟩) fun n11 => ?_
  refine SmP.ite (fun _ => SmP.mk ⟨by decide, by decide, rfl, by simp, by simp [hB], by simp [flB_len]⟩) fun n12 => ?_
  refine SmP.ite (fun _ => SmP.mk ⟨by decide, by decide, rfl, by simp, by simp [hA], by simp [flB_len]⟩) fun n13 => ?_
  refine SmP.ite (fun _ => SmP.mk ⟨by decide, by decide, rfl, by simp, by simp [hA], by simp [flB_len]⟩) fun n14 => ?_
  refine SmP.ite (fun _ => SmP.ite (fun _ => SmP.mk ⟨by decide, by decide, rfl, by simp, by simp [hA], by simp [flB_len]⟩) fun _ => SmP.mk ⟨by decide, by decide, rfl, by simp, by simp [hA, hB, hC], by simp⟩) fun n15 => ?_
  refine SmP.ite (fun _ => SmP.mk ⟨by decide, by decide, rfl, by simp, by simp, by simp [flB_len]⟩) fun n16 => ?_
  refine SmP.ite (fun _ => SmP.ite (fun _ => SmP.mk ⟨by decide, by decide, rfl, by simp, by simp, by simp⟩) fun _ => SmP.mk ⟨by decide, by decide, rfl, by simp, by simp [bye], by simp⟩) fun n17 => ?_
  refine SmP.ite (fun _ => SmP.mk ⟨by decide, by decide, rfl, by decide, by decide, by decide⟩) fun n18 => ?_
  omega
theorem cn_lt (x : CL) : x.cn < 3 := by unfold CL.cn; omega
theorem mfr_ok (x : CL) (h : x.kn ≤ 25) : ((methW (octM x).1 (octM x).2.1 (octM x).2.2).getD []).length ≤ 4088 := SmM.len (octM_sm x h)
theorem octH_len (x : CL) : (octH x).2.2.length ≤ 255 := by unfold octH; simp only; split <;> simp [x.C_len]
theorem octP_frs (x : CL) (h : x.kn ≤ 25) (hc : x.cn ≠ 0) : Frs (octP x) := by
  have h3 := cn_lt x
  have f1 : Frs (mfr x.cn (octM x)) := Frs.one (by decide) (by omega) (by omega) (mfr_ok x h)
  unfold octP
  split
  · refine f1.app ?_
    unfold contW
    refine .cons 2 x.cn _ _ (by decide) (by omega) (by omega) ?_ (Frs.bod (by omega) (by omega) _ _)
    have := headW_len ((x.body.take 11000).length, (octH x).2)
    have := octH_len x
    simp only at *
    omega
  · first | exact f1 | (rw [if_pos h]; exact f1)
theorem octP_len (x : CL) (h : x.kn ≤ 25) : (octP x).length ≤ 200000 := by
  have h1 := mfr_ok x h
  have h2 : (mfr x.cn (octM x)).length ≤ 4096 := by unfold mfr; rw [frW_length]; omega
  unfold octP
  split
  · have h3 := headW_len ((x.body.take 11000).length, (octH x).2)
    have h4 := octH_len x
    have h5 := bodW_len x.cn ((x.body.take 11000).length + 1) (x.body.take 11000)
    have h6 : (x.body.take 11000).length ≤ 11000 := by rw [List.length_take]; omega
    unfold contW
    rw [List.length_append, List.length_append, frW_length]
    simp only at *
    omega
  · first | omega | (rw [if_pos h]; omega)
def cl5 (b : Oct) : Cnn := ⟨5, b, [], true, false, [(1, ca0), (2, ca0)], [], (none, 0, 0)⟩
def cl6 : Cnn := ⟨6, [], [], true, false, [(1, ca0), (2, ca0)], [], (none, 0, 0)⟩
theorem cl5_skip {b : Oct} (f : Frs b) : nxt (cl5 b) = (none, cl5 []) := by
  induction f with
  | nil => exact nxt_stop rfl rfl
  | cons k ch x o h1 h2 h3 h4 h5 ih =>
    have hs : stepP (cl5 (frW k ch x ++ o)) = (true, cl5 o) := by
      unfold stepP
      rw [if_neg (by simp [cl5]), if_neg (by simp [cl5])]
      show (match framP (frW k ch x ++ o) with | .more => _ | .bad => _ | .ok k ch b n => _ : Bool × Cnn) = _
      rw [framP_frW h1 h3 h4]
      have ed : (frW k ch x ++ o).drop (8 + x.length) = o := by
        rw [List.drop_append_of_le_length (by rw [frW_length]; omega), List.drop_of_length_le (by rw [frW_length]; omega)]; rfl
      dsimp only
      show (true, takeF { cl5 (frW k ch x ++ o) with b := (frW k ch x ++ o).drop (8 + x.length) } k ch x) = _
      rw [ed]
      show (true, takeF (cl5 o) k ch x) = _
      unfold takeF
      rw [if_pos (show (cl5 o).st = 5 from rfl)]
      unfold lastP
      cases methP x with
      | inl e => rfl
      | inr m => dsimp only; rw [if_pos (.inl (by omega))]
    rw [nxt_step rfl (by rw [hs]), hs]
    exact ih
def lastC (f : Int) : CL := ⟨0, 26, 0, f, [], [], [], []⟩
theorem ends_close1 : closeP hs0 320 0 0 = ((closeP hs0 320 0 0).1, cl5 []) := by kernel_rfl
theorem ends_close1l : (closeP hs0 320 0 0).1.length ≠ 0 := by decide +kernel
theorem ends_close2 : closeP (cl5 []) 320 0 0 = ([], cl5 []) := by kernel_rfl
theorem ends_own1 : nxt ((cl5 []).feed (octP (lastC 0))) = (some (evOut (frameP 0 (mm0 10 51))), { cl6 with ev := [evCh 5 0] }) := by kernel_rfl
theorem ends_own2 : nxt { cl6 with ev := [evCh 5 0] } = (some (evCh 5 0), cl6) := by kernel_rfl
theorem ends_not : nxt ((cl5 []).feed (octP (lastC 1))) = (some (evCh 5 0), cl6) := by kernel_rfl
theorem ends_hello : cl6.feed helloP = cl6 := by kernel_rfl
theorem ends_no : nxt cl6 = (none, cl6) := by kernel_rfl
theorem ends_c6 : closeP cl6 200 0 0 = ([], cl6) := by kernel_rfl
theorem ends_ch6 : closeChP cl6 1 404 0 0 = ([], cl6) := by kernel_rfl
theorem lastC_len : (octP (lastC 0)).length ≤ 1000 ∧ (octP (lastC 1)).length ≤ 1000 := by decide +kernel
theorem Inv.cl5 {b : Oct} (h : b.length < 1073741824) : Inv (cl5 b) := ⟨by simp [Pr.cl5], h, fun x hx => by simp [Pr.cl5] at hx; rcases hx with rfl | rfl <;> exact AOk.zero⟩
theorem Inv.cl6 {l : List EV} (hl : l.length ≤ 1000) : Inv { cl6 with ev := l } := ⟨hl, (by show 0 < 1073741824; decide), fun x hx => by simp [Pr.cl6] at hx; rcases hx with rfl | rfl <;> exact AOk.zero⟩
abbrev XCall : Type := Int × Int × Int × Int × List UInt8 × List UInt8 × List UInt8 × (SV × List UInt8)
def XCall.cl (x : XCall) : CL := ⟨x.1, x.2.1, x.2.2.1, x.2.2.2.1, x.2.2.2.2.1, x.2.2.2.2.2.1, x.2.2.2.2.2.2.1, x.2.2.2.2.2.2.2.2⟩
abbrev XCall.sv (x : XCall) : SV := x.2.2.2.2.2.2.2.1
abbrev xcall (x : XCall) : List Value := callc x.cl x.sv
theorem xcall_len (x : XCall) : (xcall x).length = 8 := rfl
theorem xcall_one (x : XCall) : ∀ w ∈ xcall x, one w = true := by intro w hw; simp at hw; rcases hw with rfl | rfl | rfl | rfl | rfl | rfl | rfl | rfl <;> rfl
structure XOk (h : Heap) (x : XCall) : Prop where
  sl : Sl 1 h x.sv.1 x.sv.2.1 (u8s x.cl.body)
  le : x.sv.2.1 ≤ x.sv.2.2
  mx : x.sv.2.2 ≤ maxLen
section
variable {K : KT} {L R : List Asr} {h : Heap}
theorem endsL13 {c : Addr} {t0 : OA} {t0l t0c : Nat} {t1 : Bool} : ∀ (k : Nat) (s : Cnn) (i : Nat) (h : Heap), i + k = 20 → St (ConO c s :: L) h → Inv s →
    (∀ h', St (ConO c (runN k s).2 :: L) h' → qab.j2 K t0 t0l t0c t1 (some c) h') → qab.L13 K (k + 1) t0 t0l t0c t1 (some c) (i : Int) h
  | 0, s, i, h, hi, S, iv, hK => by
    unfold qab.L13
    have : i = 20 := by omega
    subst this
    exact ⟨fun e => (by simp at e), fun _ => hK h S⟩
  | k + 1, s, i, h, hi, S, iv, hK => by
    unfold qab.L13
    refine ⟨fun _ => ?_, fun e => (by have := of_decide_eq_false e; omega)⟩
    have iv2 := iv.nxt
    have wi : IntKind.i64.wrap ((i : Int) + 1) = ((i + 1 : Nat) : Int) := wrapI (by omega) (by omega)
    refine nextS (c := c) (s := s) S (by have := iv.e; omega) iv.b iv.a ?_
    intro h1
    have go : St (ConO c (nxt s).2 :: L) h1 → qab.L13 K (k + 1) t0 t0l t0c t1 (some c) ((i + 1 : Nat) : Int) h1 := fun S1 =>
      endsL13 k (nxt s).2 (i + 1) h1 (by omega) S1 iv2 fun h' S' => hK h' (by unfold runN; exact S')
    cases hx : (nxt s).1 with
    | none =>
      intro S1
      refine ⟨_, _, rfl, (bdE _ _).2 ?_⟩
      rw [wi]
      exact go S1
    | some e =>
      intro q S1
      refine ⟨_, _, rfl, (bdE _ _).2 ?_⟩
      rw [wi]
      exact go S1.d1
theorem feed5 {b : Oct} {w : Oct} : (cl5 b).feed w = cl5 (b ++ w) := by unfold Cnn.feed; rw [if_pos ⟨by show (5 : Nat) ≠ 6; decide, rfl⟩]; rfl
theorem endsL9 {h0 : Heap} {c : Addr} {s : SV} {xs : List XCall} {own : Bool} (sl : Sl 8 h0 s.1 s.2.1 (xs.flatMap xcall)) (w : ∀ x ∈ xs, XOk h0 x)
    (hK : ∀ b h', Frs b → b.length ≤ 4000000 → St [ConO c (cl5 b), Old h0] h' → qab.j4 K own (some c) h') :
    ∀ (k i : Nat) (b : Oct) (h : Heap), i + k = 20 → Frs b → b.length ≤ 200000 * i → St [ConO c (cl5 b), Old h0] h → qab.L9 K (k + 1) s.1 s.2.1 s.2.2 own (some c) (i : Int) h := by
  intro k
  induction k with
  | zero =>
    intro i b h hi fb hl S
    have : i = 20 := by omega
    subst this
    have fin : qab.j10 K (qab.L9 K 0) s.1 s.2.1 s.2.2 own (some c) ((20 : Nat) : Int) false h := by
      unfold qab.j10
      exact ifF rfl (hK b h fb (by omega) S)
    unfold qab.L9
    exact ⟨fun _ => fin, fun _ => fin⟩
  | succ k ih =>
    intro i b h hi fb hl S
    have slh := sl.kept (S.keptOld (List.mem_cons_of_mem _ (List.mem_cons_self ..)))
    have ll : s.2.1 = xs.length := by have := sl.1; rw [flat_length xcall_len] at this; omega
    have stop : qab.j10 K (qab.L9 K (k + 1)) s.1 s.2.1 s.2.2 own (some c) (i : Int) false h := by
      unfold qab.j10
      exact ifF rfl (hK b h fb (by omega) S)
    unfold qab.L9
    by_cases hlt : i < s.2.1
    · refine ifT (by simp; omega) ?_
      rw [show decide (((i : Nat) : Int) < 20) = true by simp; omega]
      have hlt' : i < xs.length := by omega
      obtain ⟨x, hx⟩ : ∃ x, xs[i]? = some x := ⟨xs[i], List.getElem?_eq_getElem hlt'⟩
      have ox := w x (List.mem_of_getElem? hx)
      unfold qab.j10
      refine ifT rfl (ixS xcall_len (by decide) slh (n := i) rfl hx ((bdE _ _).2 ?_))
      have wi : IntKind.i64.wrap ((i : Int) + 1) = ((i + 1 : Nat) : Int) := wrapI (by omega) (by omega)
      have S1 := S.al [.int .i64 0, .int .i64 0, .int .i64 0, .int .i64 0, .string (mkS []), .string (mkS []), .string (mkS []), .slice none 0 0] T.waybilllaw24_Call
      refine ⟨rfl, S1.putA (top h) (ws := xcall x) rfl (xcall_one x) fun h2 S2 => ?_⟩
      generalize top h = t at *
      refine ⟨_, S2.rc t 1 rfl, by decide, (bdE _ _).2 ?_⟩
      rw [tm28]
      have skip : ∀ {t8 : Addr}, qab.j12 K (qab.L9 K (k + 1)) s.1 s.2.1 s.2.2 own (some c) (i : Int) t8 true h2 := by
        intro t8
        unfold qab.j12
        refine ifT rfl ?_
        unfold qab.j11
        refine (bdE _ _).2 ?_
        rw [wi]
        exact ih (i + 1) b h2 (by omega) fb (by omega) S2.tl
      by_cases hk : 26 ≤ x.cl.kn
      · exact ifT' (show decide (((x.cl.kn : Nat) : Int) ≥ 26) = true by simp; omega) skip
      · refine ifF' (show decide (((x.cl.kn : Nat) : Int) ≥ 26) = false by simp; omega) ⟨_, S2.rc t 0 rfl, by decide, ?_⟩
        rw [tm3]
        by_cases hc : x.cl.cn = 0
        · rw [show (((((x.cl.ch % 256).toNat % 3 : Nat)) : Int) == 0) = true by have : (x.cl.ch % 256).toNat % 3 = 0 := hc; rw [this]; rfl]
          exact skip
        · rw [show (((((x.cl.ch % 256).toNat % 3 : Nat)) : Int) == 0) = false by have : ¬ (x.cl.ch % 256).toNat % 3 = 0 := hc; simp; omega]
          unfold qab.j12
          refine ifF rfl ⟨_, S2.rall t 8 rfl, ?_⟩
          have S3 : St (Im 1 x.sv (u8s x.cl.body) :: Bx t (xcall x) :: [ConO c (cl5 b), Old h0]) h2 := S2.imOld (by simp) ox.sl ox.le
          haveI : In (fun z => Im 1 x.sv (u8s z)) (Im 1 x.sv (u8s x.cl.body) :: Bx t (xcall x) :: [ConO c (cl5 b), Old h0]) x.cl.body := In.head
          refine octS (x := x.cl) (v := x.sv) S3 (by omega) (by omega) fun p l cc h3 S4 => ⟨_, _, _, rfl, ?_⟩
          have fl := octP_len x.cl (by omega)
          have S5 : St [ConO c (cl5 b), Im 1 (p, l, cc) (u8s (octP x.cl)), Old h0] h3 := S4.to
          refine feedS (c := c) (s := cl5 b) (t := (p, l, cc)) (bs := octP x.cl) S5 (by show b.length < _; omega) (by omega) fun h4 S6 => ⟨rfl, ?_⟩
          rw [feed5] at S6
          unfold qab.j11
          refine (bdE _ _).2 ?_
          rw [wi]
          exact ih (i + 1) (b ++ octP x.cl) h4 (by omega) (fb.app (octP_frs x.cl (by omega) hc)) (by rw [List.length_append]; omega) S6.to
    · exact ifF (by simp; omega) stop
theorem ends_j7 {h0 : Heap} {c t : Addr} {e : EV} {q : QV} (he : e.k = 5) (S : St (ConO c cl6 :: Bx t (evc e q) :: [Old h0]) h) (hK : ∀ h', Kept h0 h' → K (.bool true) h') : qab.j7 K (some c) t true h := by
  unfold qab.j7
  refine helloS S fun p l cc h1 S1 => ⟨_, _, _, rfl, ?_⟩
  have hl := helloLen
  refine feedS (c := c) (s := cl6) (t := (p, l, cc)) (bs := helloP) S1.im (by decide) (by omega) fun h2 S2 => ⟨rfl, ?_⟩
  rw [ends_hello] at S2
  have i6 : Inv cl6 := Inv.cl6 (l := []) (by decide)
  refine nextS (c := c) (s := cl6) S2 (by decide) (by decide) i6.a ?_
  rw [ends_no]
  intro h3 S3
  refine ⟨_, _, rfl, (bdE _ _).2 ?_⟩
  rw [zev_al]
  have S4 := S3.al zev T.api_Event
  refine ⟨rfl, S4.putA (top h3) (ws := zev) rfl (by simp [one]) fun h4 S5 => ?_⟩
  refine ifT rfl ⟨_, S5.rc t 0 rfl, ifT (by rw [he]; rfl) (ifT rfl (stateS (c := c) (s := cl6) S5 ⟨_, rfl, ifT rfl ?_⟩))⟩
  refine closeS (c := c) (s := cl6) (n := 200) (cl := 0) (id := 0) S5 fun p l cc h5 S6 => ⟨_, _, _, rfl, ?_⟩
  rw [ends_c6] at S6
  have l0 : l = 0 := by have := (S6.osl 1 (p, l, cc)).1; simpa [u8s] using this.symm
  refine ifT (by rw [l0]; rfl) ?_
  refine closeChS (c := c) (s := cl6) (ch := 1) (n := 404) (cl := 0) (id := 0) S6 fun p2 l2 cc2 h6 S7 => ⟨_, _, _, rfl, (bdE _ _).2 ?_⟩
  rw [ends_ch6] at S7
  have l1 : l2 = 0 := by have := (S7.osl 1 (p2, l2, cc2)).1; simpa [u8s] using this.symm
  rw [l1]
  exact hK h6 (S7.keptOld (by simp))
theorem ends_j6 {h0 : Heap} {c : Addr} {own : Bool} (S : St [ConO c (cl5 []), Old h0] h) (hK : ∀ h', Kept h0 h' → K (.bool true) h') : qab.j6 K own (some c) (if own then 0 else 1) h := by
  unfold qab.j6
  have S0 : St (Im 1 (none, 0, 0) (u8s []) :: [ConO c (cl5 []), Old h0]) h := S.imNil 1 0
  haveI : In (fun z => Im 1 ((none, 0, 0) : SV) (u8s z)) (Im 1 (none, 0, 0) (u8s []) :: [ConO c (cl5 []), Old h0]) (lastC (if own then 0 else 1)).body := In.head
  have ll := lastC_len
  refine octS (x := lastC (if own then 0 else 1)) (v := (none, 0, 0)) S0 (by show 26 % 28 ≤ 26; decide) (fun _ => by show ¬ (0 : Int) < 0 % 16; decide) fun p l cc h1 S1 => ⟨_, _, _, rfl, ?_⟩
  have lo : (octP (lastC (if own then 0 else 1))).length ≤ 1000 := by cases own; exact ll.2; exact ll.1
  have S2 : St [ConO c (cl5 []), Im 1 (p, l, cc) (u8s (octP (lastC (if own then 0 else 1)))), Old h0] h1 := S1.to
  refine feedS (c := c) (s := cl5 []) (t := (p, l, cc)) (bs := octP (lastC (if own then 0 else 1))) S2 (by decide) (by omega) fun h2 S3 => ⟨rfl, ?_⟩
  have iv : Inv ((cl5 []).feed (octP (lastC (if own then 0 else 1)))) := (Inv.cl5 (b := []) (by decide)).feed (by show 0 + _ < _; omega)
  refine nextS (c := c) (s := (cl5 []).feed (octP (lastC (if own then 0 else 1)))) S3 (by have := iv.e; omega) iv.b iv.a ?_
  cases own with
  | true =>
    show NextK _ c _ (nxt ((cl5 []).feed (octP (lastC 0))))
    rw [ends_own1]
    intro h3 q S4
    refine ⟨_, _, rfl, (bdE _ _).2 ?_⟩
    rw [zev_al]
    have S5 := S4.al zev T.api_Event
    refine ⟨rfl, S5.putA (top h3) (ws := evc (evOut (frameP 0 (mm0 10 51))) q) rfl (evc2_one (_, q)) fun h4 S6 => ?_⟩
    generalize top h3 = t at *
    refine ifT rfl (ifF' rfl ⟨_, S6.rc t 0 rfl, ?_⟩)
    unfold qab.j8
    refine ifF rfl ?_
    have i6 : Inv { cl6 with ev := [evCh 5 0] } := Inv.cl6 (l := [evCh 5 0]) (by decide)
    refine nextS (c := c) (s := { cl6 with ev := [evCh 5 0] }) S6 (by decide) (by decide) i6.a ?_
    rw [ends_own2]
    intro h5 q2 S7
    refine ⟨_, _, rfl, rfl, S7.putA t (ws := evc (evCh 5 0) q2) rfl (evc2_one (_, q2)) fun h6 S8 => ?_⟩
    exact ends_j7 (h0 := h0) (e := evCh 5 0) (q := q2) rfl S8.to hK
  | false =>
    show NextK _ c _ (nxt ((cl5 []).feed (octP (lastC 1))))
    rw [ends_not]
    intro h3 q S4
    refine ⟨_, _, rfl, (bdE _ _).2 ?_⟩
    rw [zev_al]
    have S5 := S4.al zev T.api_Event
    refine ⟨rfl, S5.putA (top h3) (ws := evc (evCh 5 0) q) rfl (evc2_one (_, q)) fun h4 S6 => ?_⟩
    generalize top h3 = t at *
    exact ifF rfl (ends_j7 (h0 := h0) (e := evCh 5 0) (q := q) rfl S6.to hK)
theorem ConnsEnds.law (s : SV) (xs : List XCall) (sl : Sl 8 h s.1 s.2.1 (xs.flatMap xcall)) (le : s.2.1 ≤ s.2.2) (mx : s.2.2 ≤ maxLen)
    (w : ∀ x ∈ xs, (Lit.int .i64 x.1).wf = true ∧ (Lit.int .i64 x.2.1).wf = true ∧ (Lit.int .i64 x.2.2.1).wf = true ∧ (Lit.int .i64 x.2.2.2.1).wf = true ∧ x.2.2.2.2.1.length ≤ maxLen ∧ x.2.2.2.2.2.1.length ≤ maxLen ∧ x.2.2.2.2.2.2.1.length ≤ maxLen ∧ (Sl 1 h x.2.2.2.2.2.2.2.1.1 x.2.2.2.2.2.2.2.1.2.1 (u8s x.2.2.2.2.2.2.2.2) ∧ x.2.2.2.2.2.2.2.1.2.1 ≤ x.2.2.2.2.2.2.2.1.2.2 ∧ x.2.2.2.2.2.2.2.1.2.2 ≤ maxLen)) (own : Bool) :
    CallsH P F.qab [s.v, .bool own] (fun v h' => v = .bool true ∧ Kept h h') h := by
  have wx : ∀ x ∈ xs, XOk h x := fun x hx => ⟨(w x hx).2.2.2.2.2.2.2.1, (w x hx).2.2.2.2.2.2.2.2.1, (w x hx).2.2.2.2.2.2.2.2.2⟩
  refine qab.ok ?_
  unfold qab.p0
  refine newCS (St.old h) fun c h1 S1 => ⟨_, rfl, ifF' rfl (awake25S S1 fun h2 S2 => ⟨_, rfl, ?_⟩)⟩
  unfold qab.j1
  refine ifF rfl (helloS S2 fun p l cc h3 S3 => ⟨_, _, _, rfl, ?_⟩)
  have hl := helloLen
  refine feedS (c := c) (s := cn0) (t := (p, l, cc)) (bs := helloP) S3.im (by decide) (by omega) fun h4 S4 => ⟨rfl, 21, ?_⟩
  refine endsL13 20 (cn0.feed helloP) 0 h4 rfl S4 (Inv.zero.feed (by show 0 + _ < _; omega)) fun h5 S5 => ?_
  rw [helloRun] at S5
  unfold qab.j2
  refine closeS (c := c) (s := hs0) (n := 320) (cl := 0) (id := 0) S5 fun p1 l1 c1 h6 S6 => ⟨_, _, _, rfl, ?_⟩
  have e1 : l1 ≠ 0 := by
    have := (S6.osl 1 (p1, l1, c1)).1
    simp only [u8s_length, Nat.mul_one] at this
    rw [← this]; exact ends_close1l
  rw [ends_close1] at S6
  refine ifF' (by simpa using e1) ?_
  refine closeS (c := c) (s := cl5 []) (n := 320) (cl := 0) (id := 0) S6 fun p2 l2 c2 h7 S7 => ⟨_, _, _, rfl, ?_⟩
  rw [ends_close2] at S7
  have e2 : l2 = 0 := by have := (S7.osl 1 (p2, l2, c2)).1; simpa [u8s] using this.symm
  refine ifF' (by rw [e2]; rfl) (stateS (c := c) (s := cl5 []) S7 ⟨_, rfl, ?_⟩)
  unfold qab.j3
  refine ifF rfl ⟨21, ?_⟩
  refine endsL9 (h0 := h) (s := s) (xs := xs) sl wx ?_ 20 0 [] h7 rfl .nil (by decide) S7.to
  intro b h8 fb hb S8
  unfold qab.j4
  have i5 : Inv (cl5 b) := Inv.cl5 (by omega)
  refine nextS (c := c) (s := cl5 b) S8 (by have := i5.e; omega) i5.b i5.a ?_
  rw [cl5_skip fb]
  intro h9 S9
  refine ⟨_, _, rfl, (bdE _ _).2 ?_⟩
  rw [zev_al]
  have S10 := S9.al zev T.api_Event
  refine ⟨rfl, S10.putA (top h9) (ws := zev) rfl (by simp [one]) fun h10 S11 => ?_⟩
  refine ifF' rfl (stateS (c := c) (s := cl5 []) S11 ⟨_, rfl, ?_⟩)
  unfold qab.j5
  have hk : ∀ h', Kept h h' → (Value.bool true = .bool true ∧ Kept h h') := fun h' k => ⟨rfl, k⟩
  refine ifF rfl ?_
  cases own with
  | true => exact ifT rfl (ends_j6 (own := true) S11.tl hk)
  | false => exact ifF rfl (ends_j6 (own := false) S11.tl hk)
end
end Go.Proofs.YtjapglfpjhljpaaGreat.Pr
end
