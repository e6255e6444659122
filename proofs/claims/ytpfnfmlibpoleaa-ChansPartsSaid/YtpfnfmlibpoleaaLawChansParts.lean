/- ChansParts over the heap: a body is asked whole, however it is cut into frames. -/
import Derived.Test.YtpfnfmlibpoleaaAwake24
import Derived.Test.YtpfnfmlibpoleaaNumP
import Derived.Test.YtpfnfmlibpoleaaBitsP
import Derived.Test.YtpfnfmlibpoleaaLiftArg
import Derived.Test.YtpfnfmlibpoleaaPrLaw24Chansparts
set_option linter.unusedVariables false
set_option linter.unusedSimpArgs false
namespace Go.Proofs.Ytpfnfmlibpoleaa.Pr
open Go Go.Lift Go.Proofs

abbrev ptM : PMM := (60, 40, pubM [120] [107] true)
abbrev ptC (n : Nat) (w : Nat) (body : Oct) : CA := ⟨w, ptM, (n, 2, [116]), body⟩
abbrev ptB : Oct := [0, 60, 0, 40, 0, 0, 1, 120, 1, 107, 1]
abbrev ptA (n : Nat) (body : Oct) : AK := ⟨true, ptM, (n, 2, [116]), body⟩
theorem pt_1 : methW 60 40 (pubM [120] [107] true) = some ptB := by decide +kernel
theorem pt_2 : frameR 1 ptB ca0 = (ak0, 0, ⟨1, ptM, (0, 0, []), []⟩) := by kernel_rfl
theorem pt_3' : (fun o7 o6 o5 o4 o3 o2 o1 o0 : UInt8 => headP [0, 60, 0, 0, o7, o6, o5, o4, o3, o2, o1, o0, 144, 0, 1, 116, 2]) = fun o7 o6 o5 o4 o3 o2 o1 o0 => .inr (numN [o7, o6, o5, o4, o3, o2, o1, o0], 2, [116]) := by kernel_rfl
theorem pt_3 {n : Nat} (hn : n < 18446744073709551616) : headP (headW (n, 2, [116])) = .inr (n, 2, [116]) := by
  have e : headW (n, 2, [116]) = [0, 60, 0, 0, octN n 7, octN n 6, octN n 5, octN n 4, octN n 3, octN n 2, octN n 1, octN n 0, 144, 0, 1, 116, 2] := by
    have e1 : octsN 2 60 ++ octsN 2 0 = [0, 60, 0, 0] := by decide +kernel
    have e2 : octsN 2 (headFl (n, 2, [116])) = [144, 0] := by
      have : headFl (n, 2, [116]) = 36864 := rfl
      rw [this]; decide +kernel
    have e3 : headT (n, 2, [116]) = [1, 116] := by
      have : headT (n, 2, [116]) = octsN 1 1 ++ [116] := rfl
      rw [this]; decide +kernel
    have e4 : headM (n, 2, [116]) = [2] := by
      have : headM (n, 2, [116]) = octsN 1 2 := rfl
      rw [this]; decide +kernel
    unfold headW
    simp only
    rw [e1, e2, e3, e4]
    rfl
  rw [e]
  have := congrFun (congrFun (congrFun (congrFun (congrFun (congrFun (congrFun (congrFun pt_3' (octN n 7)) (octN n 6)) (octN n 5)) (octN n 4)) (octN n 3)) (octN n 2)) (octN n 1)) (octN n 0)
  rw [this]
  have en : numN [octN n 7, octN n 6, octN n 5, octN n 4, octN n 3, octN n 2, octN n 1, octN n 0] = n := numN_octsN (k := 8) (by omega) (by omega)
  rw [en]
theorem frameR2 (b : Oct) (c : CA) : frameR 2 b c = headR b c := by unfold frameR; rw [if_neg (by decide), if_pos rfl]
theorem frameR3 (b : Oct) (c : CA) : frameR 3 b c = bodyR b c := by unfold frameR; rw [if_neg (by decide), if_neg (by decide), if_pos rfl]
theorem pt_4 {n : Nat} (hn : n ≤ 10000) : frameR 2 (headW (n, 2, [116])) ⟨1, ptM, (0, 0, []), []⟩ = if n = 0 then (ptA 0 [], 0, ca0) else (ak0, 0, ptC n 2 []) := by
  rw [frameR2]
  unfold headR
  rw [if_neg (by simp), pt_3 (by omega)]
  simp only
  rw [if_neg (by omega)]
  by_cases h0 : n = 0
  · subst h0; rfl
  · rw [if_neg h0, if_neg h0]
theorem pt_5 {n : Nat} (hn : 10000 < n) (hn2 : n < 18446744073709551616) : frameR 2 (headW (n, 2, [116])) ⟨1, ptM, (0, 0, []), []⟩ = (wrongP (mm0 0 0) ⟨1, ptM, (0, 0, []), []⟩, 311, ca0) := by
  rw [frameR2]
  unfold headR
  rw [if_neg (by simp), pt_3 hn2]
  simp only
  rw [if_pos (by omega)]
  rfl

section
variable {K : KT} {L R : List Asr} {h : Heap}

/-- What goes on behind the last part. -/
theorem parts_j4 {a hb : Addr} {n : Nat} {sc sp : SV} {cl : Nat} (S : St (AsmA a ca0 :: Bx hb (hcells (n, 2, [116])) :: Im 1 sp (u8s ptB) :: L) h) (hc : sc.2.1 < 9223372036854775808) (hK : ∀ h', St L h' → K (.bool true) h') :
    waybilllaw24_ChansParts.j4 K sc.1 sc.2.1 sc.2.2 (some a) sp.1 sp.2.1 sp.2.2 hb false h := by
  unfold waybilllaw24_ChansParts.j4
  refine ifF rfl ?_
  simp only [bd]
  refine frameS (a := a) (c := ca0) (s := sp) (bs := ptB) S (by decide) (by decide) (by decide) ?_
  rw [pt_2]
  intro y1 B1 bv1 h1 S1
  refine ⟨_, _, rfl, S1.put1 hb 0 (by simp) rfl fun h2 S2 => ?_⟩
  simp only [List.set_cons_zero] at S2
  have ew : IntKind.u64.wrap ((10001 : Int) + (IntKind.u64.wrap ((sc.2.1 : Nat) : Int))) = ((10001 + sc.2.1 : Nat) : Int) := by
    rw [wrap_len (by omega), show (10001 : Int) + ((sc.2.1 : Nat) : Int) = ((10001 + sc.2.1 : Nat) : Int) by omega, wrap_len (by omega)]
  rw [ew] at S2
  have S3 : St (Bx hb (hcells (10001 + sc.2.1, 2, [116])) :: AsmA a ⟨1, ptM, (0, 0, []), []⟩ :: L) h2 := S2.to
  simp only [rdC' (S3.rall hb 3 rfl)]
  refine rheadS (t := (none, 0, 0)) (bs := []) (x := (10001 + sc.2.1, 2, [116])) (show St (Im 1 (none, 0, 0) (u8s []) :: _) h2 from S3.imNil 1 0) (by decide) (show 1 < 1073741824 by omega) fun p2 l2 c2 h7 S9 => ⟨_, _, _, rfl, ?_⟩
  rw [List.nil_append] at S9
  refine frameS (a := a) (c := ⟨1, ptM, (0, 0, []), []⟩) (s := (p2, l2, c2)) (bs := headW (10001 + sc.2.1, 2, [116])) S9.im (by simp [headW, octsN_length, headT, headM, headFl]) (by simp) (by simp) ?_
  rw [pt_5 (by omega) (by omega)]
  intro y B bv h8 S10
  refine ⟨_, _, rfl, ifT rfl (waitsS (a := a) (c := ca0) S10 ⟨_, rfl, ?_⟩)⟩
  exact hK h8 S10.to

theorem parts_end {a hb yb : Addr} {n : Nat} {sb sc sp yv bv : SV} {y : MV} {bs : Oct} (hn : bs.length = n) (S : St (Bx yb (askc (ptA n bs) y bv) :: Im 1 y.s (strs [[120], [107]]) :: Im 1 bv (u8s bs) :: AsmA a ca0 :: Bx hb (hcells (n, 2, [116])) :: Im 1 sp (u8s ptB) :: Im 1 sb (u8s bs) :: L) h)
    (hc : sc.2.1 < 9223372036854775808) (hK : ∀ h', St L h' → K (.bool true) h') : waybilllaw24_ChansParts.j3 K sb.1 sb.2.1 sb.2.2 sc.1 sc.2.1 sc.2.2 (some a) sp.1 sp.2.1 sp.2.2 hb yb h := by
  unfold waybilllaw24_ChansParts.j3
  simp only [rdS (S.rc yb 10 rfl)]
  refine str_ok u_sl u_u8 u_str (isl8 S (s := bv) (bs := bs)).1 ⟨_, rfl, str_ok u_sl u_u8 u_str (isl8 S (s := sb) (bs := bs)).1 ⟨_, rfl, ?_⟩⟩
  refine ifF' (by simp) ?_
  refine (S.get (Bx yb)).rdP 7 (n := 3) (by show 10 ≤ 11; omega) ?_
  simp only [rdC' (S.rall hb 3 rfl)]
  refine headEqS (a := (n, 2, [116])) (b := (n, 2, [116])) _ _ ⟨_, rfl, ?_⟩
  refine ifF' (by simp) ?_
  simp only [add_add S.sp, Nat.reduceAdd, rdN (S.rc yb 2 rfl), rdS (S.rc yb 4 rfl)]
  have ls := (S.isl 1 y.s).1
  simp only [strs, List.map_cons, List.map_nil, List.length_cons, List.length_nil] at ls
  refine ifF' rfl (ifF' (by rw [bne_eq_false_iff_eq]; omega) ?_)
  refine ixV (i := 1) (n := 1) (w := .string (mkS [107])) (S.isl 1 y.s) rfl rfl fun q eq cq => ?_
  simp only [rdT cq]
  exact parts_j4 (n := n) (sc := sc) (sp := sp) (cl := 0) (show St (AsmA a ca0 :: Bx hb (hcells (n, 2, [116])) :: Im 1 sp (u8s ptB) :: L) h from S.to) hc hK

theorem parts_loop {a hb yb : Addr} {n : Nat} {sb sc sp : SV} {bs : Oct} {cs : List Int} {more : Bool} (hn : bs.length = n) (hn1 : n ≤ 10000) (hc : sc.2.1 < 9223372036854775808) (hcap : sb.2.1 ≤ sb.2.2) [In (Im 1 sc) L (cs.map fun x => Value.int .i64 x)] [Hp : In (fun b => Im 1 sp (u8s b)) L ptB] [Hb : In (fun b => Im 1 sb (u8s b)) L bs]
    (hK : ∀ h', St L h' → K (.bool true) h') :
    ∀ (fuel at' i : Nat) (h : Heap) (r : AK) (yv : MV) (bv : SV), n - at' < fuel → at' < n → i ≤ at' → St (AsmA a (ptC n 2 (bs.take at')) :: Bx yb (askc r yv bv) :: Bx hb (hcells (n, 2, [116])) :: L) h →
      waybilllaw24_ChansParts.L5 K fuel sb.1 sb.2.1 sb.2.2 sc.1 sc.2.1 sc.2.2 more (some a) sp.1 sp.2.1 sp.2.2 hb yb at' i h
  | 0, _, _, _, _, _, _, hf, _, _, _ => absurd hf (Nat.not_lt_zero _)
  | fuel + 1, at', i, h, r, yv, bv, hf, hat, hi, S => by
    haveI : In (Im 1 sp) L (u8s ptB) := ⟨Hp.mem⟩
    haveI : In (Im 1 sb) L (u8s bs) := ⟨Hb.mem⟩
    have lb := Sl.len (isl8 S (s := sb) (bs := bs)).1
    have lc := (S.isl 1 sc).1
    simp only [List.length_map, Nat.mul_one] at lc
    unfold waybilllaw24_ChansParts.L5
    refine ifT (by simp; omega) ?_
    have j6 : ∀ k : Nat, 1 ≤ k → k ≤ 4088 → waybilllaw24_ChansParts.j6 K (waybilllaw24_ChansParts.L5 K fuel) sb.1 sb.2.1 sb.2.2 sc.1 sc.2.1 sc.2.2 more (some a) sp.1 sp.2.1 sp.2.2 hb yb at' i k h := by
      intro k0 hk1 hk2
      unfold waybilllaw24_ChansParts.j6
      simp only [bd]
      have ek : (if IntKind.i64.wrap (((sb.2.1 : Nat) : Int) - (at' : Int)) < ((k0 : Nat) : Int) then IntKind.i64.wrap (((sb.2.1 : Nat) : Int) - (at' : Int)) else ((k0 : Nat) : Int)) = ((min k0 (n - at') : Nat) : Int) := by
        rw [wrapI (by omega) (by omega)]
        split <;> omega
      rw [ek]
      have hk : 1 ≤ min k0 (n - at') ∧ min k0 (n - at') ≤ 4088 ∧ min k0 (n - at') ≤ n - at' := by omega
      generalize min k0 (n - at') = k at *
      have ea : IntKind.i64.wrap ((at' : Int) + (k : Int)) = ((at' + k : Nat) : Int) := by rw [wrapI (by omega) (by omega)]; omega
      rw [ea, Int.toNat_natCast, Int.toNat_natCast]
      refine ⟨⟨by omega, by omega⟩, ⟨by omega, by omega⟩, ?_⟩
      have S1 : St (Ow 1 (some (top h), 0, 0) (u8s []) :: AsmA a (ptC n 2 (bs.take at')) :: Bx yb (askc r yv bv) :: Bx hb (hcells (n, 2, [116])) :: L) (al h #[] T.uint8) := (S.al [] T.uint8).bxOw (sz := 1) (n := 0) rfl
      have S2 := (S1.itake sb (n := at' + k) (by omega)).idrop (sb.1, at' + k, sb.2.2) (n := at') (by show at' ≤ at' + k; omega)
      have es : ((u8s bs).take (at' + k)).drop at' = u8s ((bs.drop at').take k) := by
        rw [u8s_take, u8s_drop, List.drop_take, Nat.add_sub_cancel_left]
      rw [es] at S2
      have src : Src P 1 (al h #[] T.uint8) (.slice (slA sb.1 at' sb.2.2 1) (at' + k - at') (sb.2.2 - at')) (at' + k - at') (u8s ((bs.drop at').take k)) := Src.slice (S2.iml (List.mem_cons_self ..)).1 (u8s_one _)
      refine appS (s := (some (top h), 0, 0)) (bs := []) S2 src (by simp; omega) fun p l c h2 S3 => ⟨_, _, _, rfl, ?_⟩
      rw [List.nil_append] at S3
      have S4 : St (Ow 1 (p, l, c) (u8s ((bs.drop at').take k)) :: AsmA a (ptC n 2 (bs.take at')) :: Bx yb (askc r yv bv) :: Bx hb (hcells (n, 2, [116])) :: L) h2 := S3.to
      clear S3 S2 S1 src
      have lseg : ((bs.drop at').take k).length = k := by rw [List.length_take, List.length_drop]; omega
      have etk : bs.take at' ++ (bs.drop at').take k = bs.take (at' + k) := by rw [List.take_add]
      have ltk : (bs.take at').length = at' := by rw [List.length_take]; omega
      -- the step, as it goes on where nothing is too much
      have j7 : (at' + k = n → more = false) → waybilllaw24_ChansParts.j7 K (waybilllaw24_ChansParts.L5 K fuel) sb.1 sb.2.1 sb.2.2 sc.1 sc.2.1 sc.2.2 more (some a) sp.1 sp.2.1 sp.2.2 hb yb (at' + k : Nat) i p l c h2 := by
        intro hm
        unfold waybilllaw24_ChansParts.j7
        refine frameS (a := a) (c := ptC n 2 (bs.take at')) (s := (p, l, c)) (bs := (bs.drop at').take k) S4.im (by omega) (by simp; omega) (by simp; omega) ?_
        rw [frameR3]
        have eb : bodyR ((bs.drop at').take k) (ptC n 2 (bs.take at')) = if n = at' + k then (ptA n bs, 0, ca0) else (ak0, 0, ptC n 2 (bs.take (at' + k))) := by
          unfold bodyR
          simp only
          rw [if_neg (by simp), ltk, lseg, if_neg (by omega), etk]
          by_cases he : n = at' + k
          · rw [if_pos he, if_pos he, ← he, ← hn, List.take_length]
          · rw [if_neg he, if_neg he]
        rw [eb]
        by_cases he : n = at' + k
        · rw [if_pos he]
          have hmf := hm he.symm
          intro y1 B1 bv1 h3 S5
          refine ⟨_, _, rfl, rfl, S5.putA yb (ws := askc (ptA n bs) y1 bv1) rfl (by simp [one]) fun h4 S6 => ?_⟩
          have j8 : waybilllaw24_ChansParts.j8 K (waybilllaw24_ChansParts.L5 K fuel) sb.1 sb.2.1 sb.2.2 sc.1 sc.2.1 sc.2.2 more (some a) sp.1 sp.2.1 sp.2.2 hb yb 0 (at' + k : Nat) i false h4 := by
            unfold waybilllaw24_ChansParts.j8
            refine ifF rfl (ifF' rfl ?_)
            simp only [rdB (S6.rc yb 0 rfl)]
            refine ifF' (by rw [show (((at' + k : Nat) : Int) == ((sb.2.1 : Nat) : Int)) = true by simp; omega]; rfl) (waitsS (a := a) (c := ca0) S6 ⟨_, rfl, ?_⟩)
            unfold waybilllaw24_ChansParts.j10
            refine ifF (by rw [show decide (((at' + k : Nat) : Int) < ((sb.2.1 : Nat) : Int)) = false from decide_eq_false (by omega)]; rfl) ?_
            simp only [bd]
            obtain ⟨g, rfl⟩ : ∃ g, fuel = g + 1 := ⟨fuel - 1, by omega⟩
            unfold waybilllaw24_ChansParts.L5
            refine ifF (by simp; omega) ?_
            have S7 : St (Bx yb (askc (ptA n bs) y1 bv1) :: Im 1 y1.s (strs [[120], [107]]) :: Im 1 bv1 (u8s bs) :: AsmA a ca0 :: Bx hb (hcells (n, 2, [116])) :: Im 1 sp (u8s ptB) :: Im 1 sb (u8s bs) :: L) h4 := ((S6.idup 1 sp).idup 1 sb).to
            exact parts_end (yv := nosv) hn S7 hc hK
          subst hmf
          exact ⟨fun _ => j8, fun _ => j8⟩
        · rw [if_neg he]
          intro y1 B1 bv1 h3 S5
          refine ⟨_, _, rfl, rfl, S5.putA yb (ws := askc ak0 y1 bv1) rfl (by simp [one]) fun h4 S6 => ?_⟩
          refine ifF (by simp; omega) ?_
          unfold waybilllaw24_ChansParts.j8
          refine ifF rfl (ifF' rfl ?_)
          simp only [rdB (S6.rc yb 0 rfl)]
          refine ifF' (by rw [show (((at' + k : Nat) : Int) == ((sb.2.1 : Nat) : Int)) = false by simp; omega]; rfl) (waitsS (a := a) (c := ptC n 2 (bs.take (at' + k))) S6 ⟨_, rfl, ?_⟩)
          unfold waybilllaw24_ChansParts.j10
          refine ifF (by rw [show decide (((at' + k : Nat) : Int) < ((sb.2.1 : Nat) : Int)) = true from decide_eq_true (by omega)]; rfl) ?_
          simp only [bd]
          rw [wsucc (by omega)]
          have S7 : St (AsmA a (ptC n 2 (bs.take (at' + k))) :: Bx yb (askc ak0 y1 bv1) :: Bx hb (hcells (n, 2, [116])) :: L) h4 := S6.to
          exact parts_loop hn hn1 hc hcap hK fuel (at' + k) (i + 1) h4 ak0 y1 bv1 (by omega) (by omega) (by omega) S7
      by_cases he : at' + k = n
      · refine ifT (by simp; omega) ?_
        unfold waybilllaw24_ChansParts.j11
        cases hmore : more with
        | false =>
          have := j7 (fun _ => hmore)
          rw [hmore] at this
          exact ifF rfl this
        | true =>
          refine ifT rfl ?_
          simp only [bd]
          refine app1S (x := 1) (o := (p, l, c)) S4 (by omega) fun p2 l2 c2 h3 S5 => ⟨_, _, _, rfl, ?_⟩
          have l2e : l2 = k + 1 := by have := Sl.len S5.sl; simp only [List.length_append, lseg, List.length_cons, List.length_nil] at this; omega
          by_cases hbig : l2 > 4088
          · exact ifT (by simp; omega) (hK h3 S5.to)
          refine ifF (by simp; omega) ?_
          unfold waybilllaw24_ChansParts.j7
          refine frameS (a := a) (c := ptC n 2 (bs.take at')) (s := (p2, l2, c2)) (bs := (bs.drop at').take k ++ [1]) S5.im (by simp; omega) (by simp; omega) (by simp; omega) ?_
          rw [frameR3]
          have eb : bodyR ((bs.drop at').take k ++ [1]) (ptC n 2 (bs.take at')) = (⟨false, mm0 60 40, (0, 0, []), []⟩, 501, ca0) := by
            unfold bodyR
            simp only
            rw [if_neg (by simp), ltk, List.length_append, lseg, if_pos (by simp; omega)]
            rfl
          rw [eb]
          intro y1 B1 bv1 h4 S6
          refine ⟨_, _, rfl, rfl, S6.putA yb (ws := askc ⟨false, mm0 60 40, (0, 0, []), []⟩ y1 bv1) rfl (by simp [one]) fun h5 S7 => ?_⟩
          refine ifT (by simp; omega) ?_
          unfold waybilllaw24_ChansParts.j8
          refine ifT rfl (ifT rfl ?_)
          simp only [rdB (S7.rc yb 0 rfl)]
          refine ifT rfl (waitsS (a := a) (c := ca0) S7 ⟨_, rfl, ifT rfl ?_⟩)
          simp only [add_add (S7.get (Bx yb)).sp, Nat.reduceAdd, rdN (S7.rc yb 1 rfl), rdN (S7.rc yb 2 rfl)]
          refine ifT rfl ?_
          unfold waybilllaw24_ChansParts.j9
          exact hK h5 S7.to
      · refine ifF (by simp; omega) ?_
        unfold waybilllaw24_ChansParts.j11
        exact ifF rfl (j7 (fun e => absurd e he))
    have j12f : waybilllaw24_ChansParts.j12 K (waybilllaw24_ChansParts.L5 K fuel) sb.1 sb.2.1 sb.2.2 sc.1 sc.2.1 sc.2.2 more (some a) sp.1 sp.2.1 sp.2.2 hb yb at' i 4088 false h := by
      unfold waybilllaw24_ChansParts.j12
      exact ifF rfl (j6 4088 (by omega) (by omega))
    by_cases hic : i < sc.2.1
    · refine ifT (by simp; omega) ?_
      by_cases h40 : i < 40
      · rw [decide_eq_true (by omega)]
        unfold waybilllaw24_ChansParts.j12
        refine ifT rfl ?_
        have hlt : i < cs.length := by omega
        refine ixV (i := (i : Int)) (n := i) (w := .int .i64 cs[i]) (S.isl 1 sc) rfl (by simp only [List.getElem?_map, List.getElem?_eq_getElem hlt, Option.map_some]) fun q eq cq => ?_
        simp only [rdN cq, bd]
        have hm : bitsI .and .i64 cs[i] 4095 = cs[i] % 4096 := mask_i64 cs[i] 12 (by decide)
        have ew : IntKind.i64.wrap ((Int.tmod (bitsI .and .i64 cs[i] 4095) 4088) + 1) = (((cs[i] % 4096).toNat % 4088 + 1 : Nat) : Int) := by
          rw [hm, Int.tmod_eq_emod_of_nonneg (by omega), wrapI (by omega) (by omega)]
          omega
        rw [ew]
        exact ⟨by decide, j6 _ (by omega) (by omega)⟩
      · rw [decide_eq_false (by omega)]
        exact j12f
    · exact ifF (by simp; omega) j12f

theorem ChansParts.law (sb : SV) (xb : List Int) (slb : Sl 1 h sb.1 sb.2.1 (xb.map fun n => .int .u8 n)) (leb : sb.2.1 ≤ sb.2.2) (mxb : sb.2.2 ≤ maxLen) (wb : ∀ x ∈ xb, (Lit.int .u8 x).wf = true)
    (sc : SV) (xc : List Int) (slc : Sl 1 h sc.1 sc.2.1 (xc.map fun n => .int .i64 n)) (lec : sc.2.1 ≤ sc.2.2) (mxc : sc.2.2 ≤ maxLen) (wc : ∀ x ∈ xc, (Lit.int .i64 x).wf = true) (more : Bool) :
    CallsH P F.waybilllaw24_ChansParts [sb.v, sc.v, .bool more] (fun v h' => v = .bool true ∧ Kept h h') h := by
  refine waybilllaw24_ChansParts.ok ?_
  unfold waybilllaw24_ChansParts.p0
  have fin : ∀ {L : List Asr} {h1 : Heap}, St L h1 → Old h ∈ L → (Value.bool true = .bool true ∧ Kept h h1) := fun S m => ⟨rfl, S.keptOld m⟩
  by_cases hbig : sb.2.1 > 10000
  · exact ifT (by simp; omega) (awake24S (St.old h) fun h1 S1 => ⟨_, rfl, fin S1 (List.mem_cons_self ..)⟩)
  refine ifF (by simp; omega) ?_
  have en : (xb.map fun n : Int => Value.int .u8 n) = u8s (xb.map fun n => UInt8.ofNat n.toNat) := by
    unfold u8s
    rw [List.map_map]
    refine List.map_congr_left fun x hx => ?_
    have := wf_u8 (wb x hx)
    simp only [Function.comp]
    congr 1
    rw [UInt8.toNat_ofNat']
    omega
  rw [en] at slb
  generalize (xb.map fun n => UInt8.ofNat n.toNat) = bs at *
  have S0 : St [Im 1 sb (u8s bs), Im 1 sc (xc.map fun n => .int .i64 n), Old h] h := ((St.old h).imOld (by simp) slc lec).imOld (by simp) slb leb
  have lb := Sl.len slb
  have hmx : maxLen ≤ 9223372036854775807 := by decide
  refine newS S0 fun h1 S1 => ⟨_, rfl, fun _ => ?_, fun e => by cases e⟩
  generalize top h = a at *
  refine awake24S S1 fun h2 S2 => ⟨_, rfl, ?_⟩
  clear S1 S0
  unfold waybilllaw24_ChansParts.j1
  refine ifF rfl ?_
  have eh : ∀ h, al h #[.bool false, .int .i64 0, .int .i64 0, .slice none 0 0, .slice none 0 0, .slice none 0 0, .slice none 0 0, .int .u64 0, .int .i64 0, .string (mkS ([] : List UInt8)), .slice none 0 0] T.api_Ask = al h zeros.toArray T.api_Ask := fun _ => rfl
  simp only [bd, eh]
  have S4 : St (Im 1 (some (top h2), 1, 1) (nums [0]) :: _) (al h2 #[.int .u64 0] T.uint64) := S2.lit (nums [0]) T.uint64 1 rfl
  generalize al h2 #[.int .u64 0] T.uint64 = g1 at *
  have S4 : St (Im 1 (some (top g1), 2, 2) (strs [[120], [107]]) :: _) (al g1 #[.string (mkS [120]), .string (mkS [107])] T.string) := S4.lit (strs [[120], [107]]) T.string 2 rfl
  generalize al g1 #[.string (mkS [120]), .string (mkS [107])] T.string = g2 at *
  have S4 : St (Im 1 (some (top g2), 2, 2) (bools [true, false]) :: _) (al g2 #[.bool true, .bool false] T.bool) := S4.lit (bools [true, false]) T.bool 2 rfl
  generalize al g2 #[.bool true, .bool false] T.bool = g3 at *
  have sp := smallPub [120] [107] true (by decide) (by decide)
  refine rmethS (t := (none, 0, 0)) (bs := []) (y := ⟨(some (top h2), 1, 1), (some (top g1), 2, 2), (some (top g2), 2, 2), (none, 0, 0)⟩) (x := pubM [120] [107] true) (B := fun _ => False)
    (show St (Im 1 (none, 0, 0) (u8s []) :: Tb (fun _ => False) (none, 0, 0) [] :: _) g3 from (tbNil 0 S4).imNil 1 0) sp.1 sp.2.1 sp.2.2.1 sp.2.2.2 (by decide) fun p l c h4 S5 => ⟨_, _, _, _, rfl, ?_⟩
  rw [pt_1] at S5
  simp only [Option.getD_some, List.nil_append] at S5
  have S6 : St (AsmA a ca0 :: Im 1 (p, l, c) (u8s ptB) :: Im 1 sb (u8s bs) :: Im 1 sc (xc.map fun n => .int .i64 n) :: [Old h]) h4 := S5.to
  clear S5 S4 S2
  have S7 := S6.al (hcells (0, 0, [])) T.api_Head
  have ew : IntKind.u64.wrap ((sb.2.1 : Nat) : Int) = ((bs.length : Nat) : Int) := by rw [wrap_len (by omega), lb]
  rw [ew]
  refine ⟨rfl, S7.putA (top h4) (ws := hcells (bs.length, 2, [116])) rfl (by simp [one]) fun h5 S8 => ?_⟩
  generalize top h4 = hb at *
  refine frameS (a := a) (c := ca0) (s := (p, l, c)) (bs := ptB) S8 (by decide) (by decide) (by decide) ?_
  rw [pt_2]
  intro y1 B1 bv1 h6 S9
  refine ⟨_, _, rfl, keepS S9 fun h7 S10 => ?_⟩
  generalize top h6 = x at *
  simp only [rdC' (S10.rall hb 3 rfl)]
  refine rheadS (t := (none, 0, 0)) (bs := []) (x := (bs.length, 2, [116])) (show St (Im 1 (none, 0, 0) (u8s []) :: _) h7 from S10.imNil 1 0) (by decide) (show 1 < 1073741824 by omega) fun p2 l2 c2 h8 S11 => ⟨_, _, _, rfl, ?_⟩
  rw [List.nil_append] at S11
  refine frameS (a := a) (c := ⟨1, ptM, (0, 0, []), []⟩) (s := (p2, l2, c2)) (bs := headW (bs.length, 2, [116])) S11.im (by simp [headW, octsN_length, headT, headM, headFl]) (by simp) (by simp) ?_
  rw [pt_4 (by omega)]
  by_cases h0 : bs.length = 0
  · rw [if_pos h0]
    obtain rfl : bs = [] := List.length_eq_zero_iff.1 h0
    intro y2 B2 bv2 h9 S12
    refine ⟨_, _, rfl, keepS S12 fun h10 S13 => ?_⟩
    generalize top h9 = yb at *
    simp only [rdB (S13.rc x 0 rfl), rdB (S13.rc yb 0 rfl)]
    have l0 : sb.2.1 = 0 := by rw [lb]; rfl
    refine ifF' rfl (ifF' rfl (ifF' rfl ?_))
    rw [show (((sb.2.1 : Nat) : Int) == 0) = true by rw [l0]; rfl]
    unfold waybilllaw24_ChansParts.j2
    refine ifF rfl ⟨1, ?_⟩
    unfold waybilllaw24_ChansParts.L5
    refine ifF (by rw [l0]; decide) ?_
    have S14 : St (Bx yb (askc (ptA 0 []) y2 bv2) :: Im 1 y2.s (strs [[120], [107]]) :: Im 1 bv2 (u8s []) :: AsmA a ca0 :: Bx hb (hcells (0, 2, [116])) :: Im 1 (p, l, c) (u8s ptB) :: Im 1 sb (u8s []) :: [Old h]) h10 := S13.to
    exact parts_end (yv := nosv) (bs := []) rfl S14 (by omega) fun h' S' => fin S' (by simp)
  · rw [if_neg h0]
    intro y2 B2 bv2 h9 S12
    refine ⟨_, _, rfl, keepS S12 fun h10 S13 => ?_⟩
    generalize top h9 = yb at *
    simp only [rdB (S13.rc x 0 rfl), rdB (S13.rc yb 0 rfl)]
    refine ifF' rfl (ifF' rfl (ifF' rfl ?_))
    rw [show (((sb.2.1 : Nat) : Int) == 0) = false by simp; omega]
    unfold waybilllaw24_ChansParts.j2
    have S14 : St (AsmA a (ptC bs.length 2 []) :: Bx yb (askc ak0 y2 bv2) :: Bx hb (hcells (bs.length, 2, [116])) :: Im 1 (p, l, c) (u8s ptB) :: Im 1 sb (u8s bs) :: Im 1 sc (xc.map fun n => .int .i64 n) :: [Old h]) h10 := S13.to
    exact ifF rfl ⟨bs.length + 1, parts_loop (sp := (p, l, c)) (cs := xc) rfl (by omega) (by omega) leb (fun h' S' => fin S' (by simp)) _ 0 0 h10 ak0 y2 bv2 (by omega) (by omega) (Nat.le_refl _) S14⟩
end
end Go.Proofs.Ytpfnfmlibpoleaa.Pr
