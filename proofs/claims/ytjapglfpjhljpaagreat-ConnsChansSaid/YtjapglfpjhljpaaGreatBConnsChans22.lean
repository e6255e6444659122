/- connsChans_holds: all that the theorem needs, in a few texts (bundle.py; made of the texts that NOTES.md names). -/
import Derived.Below
import Derived.Carry
import Derived.ChangeOld
import Derived.ChangeShapes
import Derived.KernelRfl
import Derived.Laws.Append
import Derived.Laws.Bits64
import Derived.Laws.BitsAllLaws
import Derived.Laws.BitsLemmas
import Derived.Laws.IdiomStrings
import Derived.Laws.Sem
import Derived.Laws.Strings
import Derived.Laws.StructEq
import Derived.Lib.ItoaNum
import Derived.Lib.SlBytesConst
import Derived.LoopIn
import Derived.LoopN
import Derived.LoopNIn
import Derived.MapKept
import Derived.Maps.AppendAt
import Derived.OpenShut
import Derived.Orders
import Derived.OwnWalkIn
import Derived.RangeFuncGives
import Derived.RangeFuncSeq
import Derived.RegionIn
import Derived.Shelf.Abstract
import Derived.Shelf.Lay
import Derived.Shelf.SlIter.Collect
import Derived.Shelf.Small.Bits
import Derived.Sort.KeysCollected
import Derived.Sort.MapsRangeIn
import Derived.TacticsInMore
import Derived.Test.YtjapglfpjhljpaaGreatChecked
import Derived.WalkKit
import Derived.WideLaws
import Derived.WideShapes
import Derived.Test.YtjapglfpjhljpaaGreatBConnsChans1
import Derived.Test.YtjapglfpjhljpaaGreatBConnsChans2
import Derived.Test.YtjapglfpjhljpaaGreatBConnsChans3
import Derived.Test.YtjapglfpjhljpaaGreatBConnsChans4
import Derived.Test.YtjapglfpjhljpaaGreatBConnsChans5
import Derived.Test.YtjapglfpjhljpaaGreatBConnsChans6
import Derived.Test.YtjapglfpjhljpaaGreatBConnsChans7
import Derived.Test.YtjapglfpjhljpaaGreatBConnsChans8
import Derived.Test.YtjapglfpjhljpaaGreatBConnsChans9
import Derived.Test.YtjapglfpjhljpaaGreatBConnsChans10
import Derived.Test.YtjapglfpjhljpaaGreatBConnsChans11
import Derived.Test.YtjapglfpjhljpaaGreatBConnsChans12
import Derived.Test.YtjapglfpjhljpaaGreatBConnsChans13
import Derived.Test.YtjapglfpjhljpaaGreatBConnsChans14
import Derived.Test.YtjapglfpjhljpaaGreatBConnsChans15
import Derived.Test.YtjapglfpjhljpaaGreatBConnsChans16
import Derived.Test.YtjapglfpjhljpaaGreatBConnsChans17
import Derived.Test.YtjapglfpjhljpaaGreatBConnsChans18
import Derived.Test.YtjapglfpjhljpaaGreatBConnsChans20
import Derived.Test.YtjapglfpjhljpaaGreatBConnsChans21
section
set_option linter.unusedVariables false
set_option linter.unusedSimpArgs false
namespace Go.Proofs.YtjapglfpjhljpaaGreat.Pr
open Go Go.Lift Go.Proofs
def SmP (m : PMM) : Prop := SmM m.1 m.2.1 m.2.2
theorem SmP.ite {c : Prop} [Decidable c] {a b : PMM} (ha : c → SmP a) (hb : ¬ c → SmP b) : SmP (if c then a else b) := by
  by_cases h : c
  · rw [if_pos h]; exact ha h
  · rw [if_neg h]; exact hb h
theorem SmP.mk {a b : Int} {x : PM} (m : SmM a b x) : SmP (a, b, x) := m
theorem octM_sm (x : CL) (h : x.kn ≤ 25) : SmP (octM x) := by
  have hA := x.A_len
  have hB := x.B_len
  have hC := x.C_len
  unfold octM
  dsimp only
  refine SmP.ite (fun _ => SmP.mk ⟨by decide, by decide, rfl, by simp, by simp [hA, hB], by simp⟩) fun n1 => ?_
  refine SmP.ite (fun _ => SmP.mk ⟨by decide, by decide, rfl, by simp, by simp [hA], by simp [flB_len, flags3]⟩) fun n2 => ?_
  refine SmP.ite (fun _ => SmP.mk ⟨by decide, by decide, rfl, by simp, ⟨by simp, fun s hs => ?_⟩, by simp [flB_len, flags3]⟩) fun n3 => ?_
  · rcases List.mem_cons.1 hs with rfl | hs
    · exact hA
    · rcases List.mem_cons.1 hs with rfl | hs
      · exact kinds4_len _ hB _
      · cases hs
  refine SmP.ite (fun _ => SmP.mk ⟨by decide, by decide, rfl, by simp, by simp [hA, hB, hC], by simp [flB_len]⟩) fun n4 => ?_
  refine SmP.ite (fun _ => SmP.mk ⟨by decide, by decide, rfl, by simp, by simp [hA, hB], by simp⟩) fun n5 => ?_
  refine SmP.ite (fun _ => SmP.mk ⟨by decide, by decide, rfl, by simp, by simp [hA], by simp [flB_len]⟩) fun n6 => ?_
  refine SmP.ite (fun _ => SmP.mk <| sm1 (by decide) (by decide) (by simp [flB_len])) fun n7 => ?_
  refine SmP.ite (fun _ => SmP.mk <| sm1 (by decide) (by decide) (by simp [flB_len])) fun n8 => ?_
  refine SmP.ite (fun _ => SmP.mk <| sm1 (by decide) (by decide) (by simp [flB_len])) fun n9 => ?_
  refine SmP.ite (fun _ => SmP.mk <| sm2 (by decide) (by decide) (by simp [flB_len])) fun n10 => ?_
  have hr : ∀ k : Nat, 0 ≤ ([10, 20, 20, 30] : List Int).getD k 0 ∧ ([10, 20, 20, 30] : List Int).getD k 0 < 65536 := by
    intro k
    match k with
    | 0 => decide
    | 1 => decide
    | 2 => decide
    | 3 => decide
    | k + 4 => simp
  refine SmP.ite (fun _ => SmP.mk ⟨by decide, hr _, rfl, by decide, by decide, by decide⟩) fun n11 => ?_
  refine SmP.ite (fun _ => SmP.mk ⟨by decide, by decide, rfl, by simp, by simp [hB], by simp [flB_len]⟩) fun n12 => ?_
  refine SmP.ite (fun _ => SmP.mk ⟨by decide, by decide, rfl, by simp, by simp [hA], by simp [flB_len]⟩) fun n13 => ?_
  refine SmP.ite (fun _ => SmP.mk ⟨by decide, by decide, rfl, by simp, by simp [hA], by simp [flB_len]⟩) fun n14 => ?_
  refine SmP.ite (fun _ => SmP.ite (fun _ => SmP.mk ⟨by decide, by decide, rfl, by simp, by simp [hA], by simp [flB_len]⟩) fun _ => SmP.mk ⟨by decide, by decide, rfl, by simp, by simp [hA, hB, hC], by simp⟩) fun n15 => ?_
  refine SmP.ite (fun _ => SmP.mk ⟨by decide, by decide, rfl, by simp, by simp, by simp [flB_len]⟩) fun n16 => ?_
  refine SmP.ite (fun _ => SmP.ite (fun _ => SmP.mk ⟨by decide, by decide, rfl, by simp, by simp, by simp⟩) fun _ => SmP.mk ⟨by decide, by decide, rfl, by simp, by simp [bye], by simp⟩) fun n17 => ?_
  refine SmP.ite (fun _ => SmP.mk ⟨by decide, by decide, rfl, by decide, by decide, by decide⟩) fun n18 => ?_
  omega
abbrev XCall : Type := Int × Int × Int × Int × List UInt8 × List UInt8 × List UInt8 × (SV × List UInt8)
def XCall.cl (x : XCall) : CL := ⟨x.1, x.2.1, x.2.2.1, x.2.2.2.1, x.2.2.2.2.1, x.2.2.2.2.2.1, x.2.2.2.2.2.2.1, x.2.2.2.2.2.2.2.2⟩
abbrev XCall.sv (x : XCall) : SV := x.2.2.2.2.2.2.2.1
abbrev xcall (x : XCall) : List Value := callc x.cl x.sv
theorem xcall_len (x : XCall) : (xcall x).length = 8 := rfl
theorem xcall_one (x : XCall) : ∀ w ∈ xcall x, one w = true := by intro w hw; simp at hw; rcases hw with rfl | rfl | rfl | rfl | rfl | rfl | rfl | rfl <;> rfl
structure XOk (h : Heap) (x : XCall) : Prop where
  sl : Sl 1 h x.sv.1 x.sv.2.1 (u8s x.cl.body)
  le : x.sv.2.1 ≤ x.sv.2.2
  mx : x.sv.2.2 ≤ maxLen
section
variable {K : KT} {L R : List Asr} {h : Heap}
end
end Go.Proofs.YtjapglfpjhljpaaGreat.Pr
end
section
set_option linter.unusedVariables false
set_option linter.unusedSimpArgs false
namespace Go.Proofs.YtjapglfpjhljpaaGreat.Pr
open Go Go.Lift Go.Proofs
def k6 : List Int := [3, 9, 11, 15, 19, 20]
def callN (c : Nat) (j : Nat) (x : CL) : CL := ⟨(c : Int), k6.getD j 0, x.n, x.f, x.a, x.b, x.c, x.body⟩
theorem fit_some {a b : Int} {f : Oct} {x : PM} (hf : formP (a, b) = some f) (h : fitsP f x = true) : ∃ o, methW a b x = some o := ⟨_, by rw [methW_eq x hf, if_pos h]⟩
theorem tok0 : tableOkP [] = true := by decide +kernel
theorem chans_meth (c j : Nat) (x : CL) (hj : j < 6) : ∃ o, methW (octM (callN c j x)).1 (octM (callN c j x)).2.1 (octM (callN c j x)).2.2 = some o ∧ methP o = .inr (octM (callN c j x)) ∧ o.length ≤ 4088 ∧ ((octM (callN c j x)).1 = 50 ∨ (octM (callN c j x)).1 = 60 ∧ (octM (callN c j x)).2.1 ≠ 40) ∧ (callN c j x).kn ≤ 25 ∧ 3 ≤ (callN c j x).kn := by
  generalize hy : callN c j x = y
  have hA := y.A_len
  have hB := y.B_len
  have hk : y.kn ≤ 25 ∧ 3 ≤ y.kn := by
    rw [← hy]
    match j, hj with
    | 0, _ => show (3 : Nat) ≤ 25 ∧ 3 ≤ (3 : Nat); decide
    | 1, _ => show (9 : Nat) ≤ 25 ∧ 3 ≤ (9 : Nat); decide
    | 2, _ => show (11 : Nat) ≤ 25 ∧ 3 ≤ (11 : Nat); decide
    | 3, _ => show (15 : Nat) ≤ 25 ∧ 3 ≤ (15 : Nat); decide
    | 4, _ => show (19 : Nat) ≤ 25 ∧ 3 ≤ (19 : Nat); decide
    | 5, _ => show (20 : Nat) ≤ 25 ∧ 3 ≤ (20 : Nat); decide
  have sm := octM_sm y hk.1
  have key : ∃ o, methW (octM y).1 (octM y).2.1 (octM y).2.2 = some o := by
    have h255 : ∀ l : Oct, l.length ≤ 255 → decide (l.length ≤ 255) = true := fun l h => by simpa using h
    match j, hj with
    | 0, _ =>
      have e : octM y = (50, 10, ⟨[0], [y.A], flB y.f 2 ++ flags3 y.f, []⟩) := by
        have : y.kn = 3 := by rw [← hy]; rfl
        unfold octM; simp [this]
      rw [e]
      show ∃ o, methW 50 10 _ = some o
      refine fit_some (f := [50, 115, 102, 102, 102, 102, 102, 116]) (by decide +kernel) ?_
      simp [fitsP, fitsNS, hA, flB_len, flags3, tok0]
      decide
    | 1, _ =>
      have e : octM y = (60, 70, ⟨[0], [y.A], flB y.f 1, []⟩) := by
        have : y.kn = 9 := by rw [← hy]; rfl
        unfold octM; simp [this]
      rw [e]
      show ∃ o, methW 60 70 _ = some o
      refine fit_some (f := [50, 115, 102]) (by decide +kernel) ?_
      simp [fitsP, fitsNS, hA, flB_len, flags3, tok0]
      decide
    | 2, _ =>
      have e : octM y = (60, 80, ⟨[u64n (bitsI .and .i64 y.n 255)], [], flB y.f 1, []⟩) := by
        have : y.kn = 11 := by rw [← hy]; rfl
        unfold octM; simp [this]
      rw [e]
      show ∃ o, methW 60 80 _ = some o
      refine fit_some (f := [56, 102]) (by decide +kernel) ?_
      simp [fitsP, fitsNS, hA, flB_len, flags3, tok0]
      decide
    | 3, _ =>
      have e : octM y = (60, 10, ⟨[u64n (IntKind.i64.wrap (Int.tdiv (tops y.f) 15)), u64n (bitsI .and .i64 y.n 7)], [], flB y.f 1, []⟩) := by
        have : y.kn = 15 := by rw [← hy]; rfl
        unfold octM; simp [this]
      rw [e]
      show ∃ o, methW 60 10 _ = some o
      have ht : 0 ≤ tops y.f ∧ tops y.f < 16 := by
        have e15 : tops y.f = shrI .i64 y.f 4 % 16 := mask_i64 _ 4 (by decide)
        rw [e15]; omega
      have hd : 0 ≤ Int.tdiv (tops y.f) 15 ∧ Int.tdiv (tops y.f) 15 < 16 := by
        rw [Int.tdiv_eq_ediv_of_nonneg ht.1]; omega
      have n1 : u64n (IntKind.i64.wrap (Int.tdiv (tops y.f) 15)) < 16 := by
        rw [wrapI (by omega) (by omega)]; unfold u64n; rw [IntKind.wrap_u64]; omega
      have n2 : u64n (bitsI .and .i64 y.n 7) < 8 := by
        rw [m7]; unfold u64n; rw [IntKind.wrap_u64]; omega
      refine fit_some (f := [52, 50, 102]) (by decide +kernel) ?_
      have d1 : u64n (IntKind.i64.wrap (Int.tdiv (tops y.f) 15)) / 256 ^ ((52 : UInt8).toNat - 48) = 0 := Nat.div_eq_of_lt (Nat.lt_of_lt_of_le n1 (by decide))
      have d2 : u64n (bitsI .and .i64 y.n 7) / 256 ^ ((50 : UInt8).toNat - 48) = 0 := Nat.div_eq_of_lt (Nat.lt_of_lt_of_le n2 (by decide))
      have e1 : fitsNS [52, 50, 102] [u64n (IntKind.i64.wrap (Int.tdiv (tops y.f) 15)), u64n (bitsI .and .i64 y.n 7)] [] = true := by
        rw [fitsNS_cons, if_neg (by decide), if_neg (by decide)]
        dsimp only
        rw [d1, fitsNS_cons, if_neg (by decide), if_neg (by decide)]
        dsimp only
        rw [d2, fitsNS_cons]
        decide
      unfold fitsP
      rw [e1, tok0]
      simp [flB_len]
      decide
    | 4, _ =>
      have e : octM y = (60, 30, ⟨[], [y.B], flB y.f 1, []⟩) := by
        have : y.kn = 19 := by rw [← hy]; rfl
        unfold octM; simp [this]
      rw [e]
      show ∃ o, methW 60 30 _ = some o
      refine fit_some (f := [115, 102]) (by decide +kernel) ?_
      simp [fitsP, fitsNS, hB, flB_len, flags3, tok0]
      decide
    | 5, _ =>
      have e : octM y = (50, 30, ⟨[0], [y.A], flB y.f 1, []⟩) := by
        have : y.kn = 20 := by rw [← hy]; rfl
        unfold octM; simp [this]
      rw [e]
      show ∃ o, methW 50 30 _ = some o
      refine fit_some (f := [50, 115, 102]) (by decide +kernel) ?_
      simp [fitsP, fitsNS, hA, flB_len, flags3, tok0]
      decide
  obtain ⟨o, ho⟩ := key
  have mb := meth_back sm.ha sm.hb sm.T sm.N.2 (fun s hs => by have := sm.S.2 s hs; omega) ho
  have ml := SmM.len sm
  rw [ho] at ml
  refine ⟨o, ho, mb.1, ml, ?_, hk⟩
  rw [← hy]
  match j, hj with
  | 0, _ => exact .inl rfl
  | 1, _ => exact .inr ⟨rfl, by show (70 : Int) ≠ 40; decide⟩
  | 2, _ => exact .inr ⟨rfl, by show (80 : Int) ≠ 40; decide⟩
  | 3, _ => exact .inr ⟨rfl, by show (10 : Int) ≠ 40; decide⟩
  | 4, _ => exact .inr ⟨rfl, by show (30 : Int) ≠ 40; decide⟩
  | 5, _ => exact .inl rfl
def cs (c d : Nat) : Cnn := ⟨4, [], [], false, false, [((d : Int), ca0)], [((c : Int), 1)], (none, 0, 0)⟩
theorem cs_feed (c d : Nat) (o : Oct) : (cs c d).feed o = { cs c d with b := o } := by unfold Cnn.feed; rw [if_pos ⟨by show (4 : Nat) ≠ 6; decide, rfl⟩]; rfl
theorem fr_step {s : Cnn} {k c : Nat} {o : Oct} (h4 : s.st = 4) (hd : s.deaf = false) (hb : s.b = frW k c o) (hk : fkindP k = true) (hc : c < 65536) (hl : o.length ≤ 4088) : stepP s = (true, takeF { s with b := [] } k c o) := by
  unfold stepP
  rw [if_neg (by rw [h4, hd]; simp), if_neg (by omega)]
  have e := framP_frW (t := []) hk hc hl
  rw [List.append_nil] at e
  rw [hb, e]
  dsimp only
  rw [List.drop_of_length_le (by rw [frW_length]; omega)]
theorem cs_pass {c d : Nat} (h : c = 1 ∧ d = 2 ∨ c = 2 ∧ d = 1) {o : Oct} {m : PMM} (hm : methP o = .inr m) (hl : o.length ≤ 4088) (h20 : m.1 ≠ 20) : nxt ((cs c d).feed (frW 1 c o)) = (none, cs c d) := by
  rw [cs_feed]
  have hs : stepP { cs c d with b := frW 1 c o } = (true, cs c d) := by
    rw [fr_step (s := { cs c d with b := frW 1 c o }) rfl rfl rfl (by decide) (by omega) hl]
    have e : takeF (cs c d) 1 c o = cs c d := by
      unfold takeF
      rw [if_neg (by show ¬ (4 : Nat) = 5; decide), if_neg (by omega), if_neg (by show ¬ ((4 : Nat) ≠ 4 ∨ 16 < c); omega)]
      unfold channelP
      rw [if_pos (by rcases h with ⟨rfl, rfl⟩ | ⟨rfl, rfl⟩ <;> decide)]
      unfold endP
      rw [hm]
      dsimp only
      rw [if_pos (.inr h20)]
    show (true, takeF (cs c d) 1 c o) = _
    rw [e]
  rw [nxt_step rfl (by rw [hs]), hs]
  exact nxt_stop rfl rfl
theorem cs_ask {c d : Nat} (h : c = 1 ∧ d = 2 ∨ c = 2 ∧ d = 1) {o : Oct} {m : PMM} (hm : methP o = .inr m) (hl : o.length ≤ 4088) (h50 : m.1 = 50 ∨ m.1 = 60 ∧ m.2.1 ≠ 40) :
    nxt ((cs c d).feed (frW 1 d o)) = (some ⟨2, d, [], ⟨true, m, (0, 0, []), []⟩, 0, 0, 0⟩, cs c d) := by
  rw [cs_feed]
  have hs : stepP { cs c d with b := frW 1 d o } = (true, { cs c d with ev := [⟨2, d, [], ⟨true, m, (0, 0, []), []⟩, 0, 0, 0⟩] }) := by
    rw [fr_step (s := { cs c d with b := frW 1 d o }) rfl rfl rfl (by decide) (by omega) hl]
    have e : takeF (cs c d) 1 d o = { cs c d with ev := [⟨2, d, [], ⟨true, m, (0, 0, []), []⟩, 0, 0, 0⟩] } := by
      unfold takeF
      rw [if_neg (by show ¬ (4 : Nat) = 5; decide), if_neg (by omega), if_neg (by show ¬ ((4 : Nat) ≠ 4 ∨ 16 < d); omega)]
      unfold channelP
      rw [if_neg (by rcases h with ⟨rfl, rfl⟩ | ⟨rfl, rfl⟩ <;> decide)]
      have hg : get? (cs c d).asms (d : Int) = some ca0 := by rcases h with ⟨rfl, rfl⟩ | ⟨rfl, rfl⟩ <;> rfl
      rw [hg]
      have hr : frameR 1 o ca0 = (⟨true, m, (0, 0, []), []⟩, 0, ca0) := by
        unfold frameR
        rw [if_pos rfl]
        unfold methodR
        rw [if_neg (by show ¬ (0 : Nat) ≠ 0; decide), hm]
        dsimp only
        rw [if_neg (by rintro ⟨a, b⟩; rcases h50 with e | ⟨e, f⟩ <;> omega)]
      dsimp only
      unfold askP
      dsimp only
      rw [show ((1 : Nat) : Int) = 1 from rfl, hr]
      dsimp only
      rw [if_neg (by decide), if_neg (by decide), if_neg (by omega), if_neg (by omega), if_neg (by omega)]
      rcases h with ⟨rfl, rfl⟩ | ⟨rfl, rfl⟩ <;> rfl
    show (true, takeF (cs c d) 1 d o) = _
    rw [e]
  rw [nxt_step rfl (by rw [hs]), hs]
  exact nxt_ev rfl
def lastK (c : Nat) (k n : Int) : CL := ⟨(c : Int), k, n, 0, [], [], [], []⟩
def ct (c d : Nat) : Cnn := ⟨4, [], [], false, false, [((d : Int), ca0)], [], (none, 0, 0)⟩
def cu (c d : Nat) : Cnn := ⟨4, [], [], false, false, [((d : Int), ca0), ((c : Int), ca0)], [], (none, 0, 0)⟩
theorem chans_close1 : closeChP hs0 1 404 60 40 = ((closeChP hs0 1 404 60 40).1, cs 1 2) ∧ closeChP hs0 2 404 60 40 = ((closeChP hs0 2 404 60 40).1, cs 2 1) := ⟨by kernel_rfl, by kernel_rfl⟩
theorem chans_close1l : (closeChP hs0 1 404 60 40).1.length ≠ 0 ∧ (closeChP hs0 2 404 60 40).1.length ≠ 0 := by decide +kernel
theorem chans_close2 : closeChP (cs 1 2) 1 404 60 40 = ([], cs 1 2) ∧ closeChP (cs 2 1) 2 404 60 40 = ([], cs 2 1) := ⟨by kernel_rfl, by kernel_rfl⟩
theorem chans_25 : nxt ((cs 1 2).feed (octP (lastK 1 25 0))) = (none, ct 1 2) ∧ nxt ((cs 2 1).feed (octP (lastK 2 25 0))) = (none, ct 2 1) := ⟨by kernel_rfl, by kernel_rfl⟩
theorem chans_24 : nxt ((ct 1 2).feed (octP (lastK 1 24 1))) = (some (evOut (frameP 1 (mmS 20 11 [[]]))), { cu 1 2 with ev := [evCh 3 1] }) ∧ nxt ((ct 2 1).feed (octP (lastK 2 24 1))) = (some (evOut (frameP 2 (mmS 20 11 [[]]))), { cu 2 1 with ev := [evCh 3 2] }) := ⟨by kernel_rfl, by kernel_rfl⟩
theorem chans_last : nxt { cu 1 2 with ev := [evCh 3 1] } = (some (evCh 3 1), cu 1 2) ∧ nxt { cu 2 1 with ev := [evCh 3 2] } = (some (evCh 3 2), cu 2 1) := ⟨by kernel_rfl, by kernel_rfl⟩
theorem lastK_len : (octP (lastK 1 25 0)).length ≤ 1000 ∧ (octP (lastK 2 25 0)).length ≤ 1000 ∧ (octP (lastK 1 24 1)).length ≤ 1000 ∧ (octP (lastK 2 24 1)).length ≤ 1000 := by decide +kernel
theorem as1 {d : Int} : ∀ x ∈ [(d, ca0)], AOk x.2 := fun x hx => by simp at hx; subst hx; exact AOk.zero
theorem as2 {d c : Int} : ∀ x ∈ [(d, ca0), (c, ca0)], AOk x.2 := fun x hx => by simp at hx; rcases hx with rfl | rfl <;> exact AOk.zero
theorem Inv.cs {c d : Nat} {o : Oct} (h : o.length < 1073741824) : Inv ((cs c d).feed o) := by rw [cs_feed]; exact ⟨by show 0 ≤ 1000; decide, h, as1⟩
theorem ct_feed (c d : Nat) (o : Oct) : (ct c d).feed o = { ct c d with b := o } := by unfold Cnn.feed; rw [if_pos ⟨by show (4 : Nat) ≠ 6; decide, rfl⟩]; rfl
theorem Inv.ct {c d : Nat} {o : Oct} (h : o.length < 1073741824) : Inv ((ct c d).feed o) := by rw [ct_feed]; exact ⟨by show 0 ≤ 1000; decide, h, as1⟩
section
variable {K : KT} {L R : List Asr} {h : Heap}
theorem chansL8 {c : Addr} {t0 : Int} {t1 : OA} {t1l t1c : Nat} : ∀ (k : Nat) (s : Cnn) (i : Nat) (h : Heap), i + k = 20 → St (ConO c s :: L) h → Inv s →
    (∀ h', St (ConO c (runN k s).2 :: L) h' → qab.j2 K t0 t1 t1l t1c (some c) h') → qab.L8 K (k + 1) t0 t1 t1l t1c (some c) (i : Int) h
  | 0, s, i, h, hi, S, iv, hK => by
    unfold qab.L8
    have : i = 20 := by omega
    subst this
    exact ⟨fun e => (by simp at e), fun _ => hK h S⟩
  | k + 1, s, i, h, hi, S, iv, hK => by
    unfold qab.L8
    refine ⟨fun _ => ?_, fun e => (by have := of_decide_eq_false e; omega)⟩
    have iv2 := iv.nxt
    have wi : IntKind.i64.wrap ((i : Int) + 1) = ((i + 1 : Nat) : Int) := wrapI (by omega) (by omega)
    refine nextS (c := c) (s := s) S (by have := iv.e; omega) iv.b iv.a ?_
    intro h1
    have go : St (ConO c (nxt s).2 :: L) h1 → qab.L8 K (k + 1) t0 t1 t1l t1c (some c) ((i + 1 : Nat) : Int) h1 := fun S1 =>
      chansL8 k (nxt s).2 (i + 1) h1 (by omega) S1 iv2 fun h' S' => hK h' (by unfold runN; exact S')
    cases hx : (nxt s).1 with
    | none =>
      intro S1
      refine ⟨_, _, rfl, (bdE _ _).2 ?_⟩
      rw [wi]
      exact go S1
    | some e =>
      intro q S1
      refine ⟨_, _, rfl, (bdE _ _).2 ?_⟩
      rw [wi]
      exact go S1.d1
theorem chans_j4 {h0 : Heap} {a : Addr} {c d n : Nat} (hcd : c = 1 ∧ d = 2 ∨ c = 2 ∧ d = 1) (S : St [ConO a (cs c d), Old h0] h) (hK : ∀ h', Kept h0 h' → K (.bool true) h') : qab.j4 K (c : Int) (some a) (n : Int) h := by
  unfold qab.j4
  have ll := lastK_len
  have l25 : (octP (lastK c 25 0)).length ≤ 1000 := by rcases hcd with ⟨rfl, rfl⟩ | ⟨rfl, rfl⟩; exact ll.1; exact ll.2.1
  have l24 : (octP (lastK c 24 1)).length ≤ 1000 := by rcases hcd with ⟨rfl, rfl⟩ | ⟨rfl, rfl⟩; exact ll.2.2.1; exact ll.2.2.2
  have e25 : nxt ((cs c d).feed (octP (lastK c 25 0))) = (none, ct c d) := by rcases hcd with ⟨rfl, rfl⟩ | ⟨rfl, rfl⟩; exact chans_25.1; exact chans_25.2
  have e24 : nxt ((ct c d).feed (octP (lastK c 24 1))) = (some (evOut (frameP c (mmS 20 11 [[]]))), { cu c d with ev := [evCh 3 c] }) := by rcases hcd with ⟨rfl, rfl⟩ | ⟨rfl, rfl⟩; exact chans_24.1; exact chans_24.2
  have el : nxt { cu c d with ev := [evCh 3 c] } = (some (evCh 3 c), cu c d) := by rcases hcd with ⟨rfl, rfl⟩ | ⟨rfl, rfl⟩; exact chans_last.1; exact chans_last.2
  have S0 : St (Im 1 (none, 0, 0) (u8s []) :: [ConO a (cs c d), Old h0]) h := S.imNil 1 0
  haveI : In (fun z => Im 1 ((none, 0, 0) : SV) (u8s z)) (Im 1 (none, 0, 0) (u8s []) :: [ConO a (cs c d), Old h0]) (lastK c 25 0).body := In.head
  refine octS (x := lastK c 25 0) (v := (none, 0, 0)) S0 (by show (25 : Nat) ≤ 26; decide) (fun e => by exact absurd e (by show ¬ (25 : Nat) = 26; decide)) fun p l cc h1 S1 => ⟨_, _, _, rfl, ?_⟩
  have S2 : St [ConO a (cs c d), Im 1 (p, l, cc) (u8s (octP (lastK c 25 0))), Old h0] h1 := S1.to
  refine feedS (c := a) (s := cs c d) (t := (p, l, cc)) (bs := octP (lastK c 25 0)) S2 (by show 0 < 1073741824; decide) (by omega) fun h2 S3 => ⟨rfl, ?_⟩
  have iv : Inv ((cs c d).feed (octP (lastK c 25 0))) := Inv.cs (by omega)
  refine nextS (c := a) (s := (cs c d).feed (octP (lastK c 25 0))) S3 (by have := iv.e; omega) iv.b iv.a ?_
  rw [e25]
  intro h3 S4
  refine ⟨_, _, rfl, (bdE _ _).2 ?_⟩
  rw [zev_al]
  have S5 := S4.al zev T.api_Event
  refine ⟨rfl, S5.putA (top h3) (ws := zev) rfl (by simp [one]) fun h4 S6 => ?_⟩
  have S7 : St [ConO a (ct c d), Old h0] h4 := S6.to
  have S8 : St (Im 1 (none, 0, 0) (u8s []) :: [ConO a (ct c d), Old h0]) h4 := S7.imNil 1 0
  haveI : In (fun z => Im 1 ((none, 0, 0) : SV) (u8s z)) (Im 1 (none, 0, 0) (u8s []) :: [ConO a (ct c d), Old h0]) (lastK c 24 1).body := In.head
  refine octS (x := lastK c 24 1) (v := (none, 0, 0)) S8 (by show (24 : Nat) ≤ 26; decide) (fun e => by exact absurd e (by show ¬ (24 : Nat) = 26; decide)) fun p l cc h5 S9 => ⟨_, _, _, rfl, ?_⟩
  have S10 : St [ConO a (ct c d), Im 1 (p, l, cc) (u8s (octP (lastK c 24 1))), Old h0] h5 := S9.to
  refine feedS (c := a) (s := ct c d) (t := (p, l, cc)) (bs := octP (lastK c 24 1)) S10 (by show 0 < 1073741824; decide) (by omega) fun h6 S11 => ⟨rfl, ?_⟩
  have iv2 : Inv ((ct c d).feed (octP (lastK c 24 1))) := Inv.ct (by omega)
  refine nextS (c := a) (s := (ct c d).feed (octP (lastK c 24 1))) S11 (by have := iv2.e; omega) iv2.b iv2.a ?_
  rw [e24]
  intro h7 q S12
  refine ⟨_, _, rfl, (bdE _ _).2 ?_⟩
  rw [zev_al]
  have S13 := S12.al zev T.api_Event
  refine ⟨rfl, S13.putA (top h7) (ws := evc (evOut (frameP c (mmS 20 11 [[]]))) q) rfl (evc2_one (_, q)) fun h8 S14 => ?_⟩
  generalize top h7 = t at *
  refine nextS (c := a) (s := { cu c d with ev := [evCh 3 c] }) S14 (by show 1 < 536870912; decide) (by show 0 < 1073741824; decide) as2 ?_
  rw [el]
  intro h9 q2 S15
  refine ⟨_, _, rfl, (bdE _ _).2 ?_⟩
  rw [zev_al]
  have S16 := S15.al zev T.api_Event
  refine ⟨rfl, S16.putA (top h9) (ws := evc (evCh 3 c) q2) rfl (evc2_one (_, q2)) fun h10 S17 => ?_⟩
  generalize top h9 = u at *
  refine ifT rfl (ifT rfl ⟨_, S17.rc t 0 rfl, ifT rfl (ifT rfl ⟨_, S17.rc u 0 rfl, ifT rfl ⟨_, S17.rc u 1 rfl, ifT (by simp [evCh]) ?_⟩⟩)⟩)
  refine chansCS (c := a) (s := cu c d) S17 (by intro z hz; simp [cu] at hz; rcases hz with rfl | rfl <;> constructor <;> (simp only; omega)) (by show 2 ≤ 12; decide) fun ks w h11 hp S18 => ⟨_, _, _, rfl, ?_⟩
  have hp' : ks.Perm [(d : Int), (c : Int)] := hp
  have lw : w.2.1 = 2 := by
    have h1 := (S18.osl 1 w).1
    have h2 := hp'.length_eq
    simp at h1 h2
    omega
  refine ifT (by rw [lw]; rfl) ((bdE _ _).2 ?_)
  rw [show decide (((n : Nat) : Int) ≥ 0) = true by simp]
  exact hK h11 (S18.keptOld (by simp))
theorem tm6 (n : Int) : Int.tmod (bitsI .and .i64 n 255) 6 = (((n % 256).toNat % 6 : Nat) : Int) := by
  rw [m255, Int.tmod_eq_emod_of_nonneg (by omega)]; omega
theorem k6_get (j : Nat) (hj : j < 6) : k6[j]? = some (k6.getD j 0) := by
  rw [List.getD_eq_getElem?_getD, List.getElem?_eq_getElem (by show j < 6; exact hj)]; rfl
theorem chansL5 {h0 : Heap} {a : Addr} {c d : Nat} {s : SV} {xs : List XCall} (hcd : c = 1 ∧ d = 2 ∨ c = 2 ∧ d = 1) (sl : Sl 8 h0 s.1 s.2.1 (xs.flatMap xcall)) (w : ∀ x ∈ xs, XOk h0 x)
    (hK : ∀ h', Kept h0 h' → K (.bool true) h') :
    ∀ (k i : Nat) (h : Heap), i + k = 20 → St [ConO a (cs c d), Old h0] h → qab.L5 K (k + 1) (c : Int) s.1 s.2.1 s.2.2 (some a) (i : Int) (i : Int) h := by
  intro k
  induction k with
  | zero =>
    intro i h hi S
    have fin : ∀ {R5}, qab.j6 K R5 (c : Int) s.1 s.2.1 s.2.2 (some a) (i : Int) (i : Int) false h := by
      intro R5
      unfold qab.j6
      exact ifF rfl (chans_j4 hcd S hK)
    unfold qab.L5
    rw [show decide (((i : Nat) : Int) < 20) = false by simp; omega]
    exact ⟨fun _ => fin, fun _ => fin⟩
  | succ k ih =>
    intro i h hi S
    have slh := sl.kept (S.keptOld (List.mem_cons_of_mem _ (List.mem_cons_self ..)))
    have ll : s.2.1 = xs.length := by have := sl.1; rw [flat_length xcall_len] at this; omega
    unfold qab.L5
    by_cases hlt : i < s.2.1
    · refine ifT (by simp; omega) ?_
      rw [show decide (((i : Nat) : Int) < 20) = true by simp; omega]
      have hlt' : i < xs.length := by omega
      obtain ⟨x, hx⟩ : ∃ x, xs[i]? = some x := ⟨xs[i], List.getElem?_eq_getElem hlt'⟩
      have ox := w x (List.mem_of_getElem? hx)
      unfold qab.j6
      refine ifT rfl (ixS xcall_len (by decide) slh (n := i) rfl hx ((bdE _ _).2 ?_))
      have wi : IntKind.i64.wrap ((i : Int) + 1) = ((i + 1 : Nat) : Int) := wrapI (by omega) (by omega)
      have S1 := S.al [.int .i64 0, .int .i64 0, .int .i64 0, .int .i64 0, .string (mkS []), .string (mkS []), .string (mkS []), .slice none 0 0] T.waybilllaw24_Call
      refine ⟨rfl, S1.putA (top h) (ws := xcall x) rfl (xcall_one x) fun h2 S2 => ?_⟩
      generalize top h = t at *
      refine (bdE _ _).2 ?_
      have S3 := S2.lit [.int .i64 3, .int .i64 9, .int .i64 11, .int .i64 15, .int .i64 19, .int .i64 20] T.int 6 rfl
      have S3 : St (Im 1 (some (top h2), 6, 6) (k6.map fun z => Value.int .i64 z) :: Bx t (xcall x) :: [ConO a (cs c d), Old h0]) (al h2 #[.int .i64 3, .int .i64 9, .int .i64 11, .int .i64 15, .int .i64 19, .int .i64 20] T.int) := S3
      refine ⟨_, S3.rc t 1 rfl, by decide, ?_⟩
      rw [tm6]
      generalize hj : (x.cl.kind % 256).toNat % 6 = j
      have hj6 : j < 6 := by omega
      refine ix (C := fun z : Int => Value.int .i64 z) (S3.isl 1 (some (top h2), 6, 6)) (n := j) rfl (k6_get j hj6) ?_
      refine S3.put1 t 1 (by simp) rfl fun h3 S4 => ?_
      simp only [List.set_cons_succ, List.set_cons_zero] at S4
      refine ⟨_, S4.rc t 0 rfl, S4.put1 t 0 (by simp) rfl fun h4 S5 => ?_⟩
      simp only [List.set_cons_succ, List.set_cons_zero] at S5
      have ec : IntKind.i64.wrap (bitsI .and .i64 x.cl.ch 1 + 1) = (((x.cl.ch % 2).toNat + 1 : Nat) : Int) := by
        rw [m1, wrapI (by omega) (by omega)]; omega
      rw [ec] at S5
      generalize hcn : (x.cl.ch % 2).toNat + 1 = c' at *
      have hc' : c' = 1 ∨ c' = 2 := by omega
      have S6 : St (Bx t (callc (callN c' j x.cl) x.sv) :: [ConO a (cs c d), Old h0]) h4 := S5.d1
      refine ⟨_, S6.rall t 8 rfl, ?_⟩
      have S7 : St (Im 1 x.sv (u8s x.cl.body) :: Bx t (callc (callN c' j x.cl) x.sv) :: [ConO a (cs c d), Old h0]) h4 := S6.imOld (by simp) ox.sl ox.le
      haveI : In (fun z => Im 1 x.sv (u8s z)) (Im 1 x.sv (u8s x.cl.body) :: Bx t (callc (callN c' j x.cl) x.sv) :: [ConO a (cs c d), Old h0]) (callN c' j x.cl).body := In.head
      obtain ⟨o, ho, hm, hl, h50, hk25, hk3⟩ := chans_meth c' j x.cl hj6
      have ecn : (callN c' j x.cl).cn = c' := by
        unfold CL.cn callN
        dsimp only
        rcases hc' with e | e <;> subst e <;> rfl
      have eo : octP (callN c' j x.cl) = frW 1 c' o := by
        unfold octP
        rw [if_neg (by omega), if_pos hk25]
        unfold mfr
        rw [ho, ecn]
        rfl
      have lo : (frW 1 c' o).length ≤ 4096 := by rw [frW_length]; omega
      refine octS (x := callN c' j x.cl) (v := x.sv) S7 (by omega) (by omega) fun p l cc h5 S8 => ⟨_, _, _, rfl, ?_⟩
      rw [eo] at S8
      have S9 : St [ConO a (cs c d), Im 1 (p, l, cc) (u8s (frW 1 c' o)), Bx t (callc (callN c' j x.cl) x.sv), Old h0] h5 := S8.to
      refine feedS (c := a) (s := cs c d) (t := (p, l, cc)) (bs := frW 1 c' o) S9 (by show 0 < 1073741824; decide) (by omega) fun h6 S10 => ⟨rfl, ?_⟩
      have iv : Inv ((cs c d).feed (frW 1 c' o)) := Inv.cs (by omega)
      refine nextS (c := a) (s := (cs c d).feed (frW 1 c' o)) S10 (by have := iv.e; omega) iv.b iv.a ?_
      have next : ∀ {h7 : Heap}, St [ConO a (cs c d), Old h0] h7 → qab.j7 K (qab.L5 K (k + 1)) (c : Int) s.1 s.2.1 s.2.2 (some a) (i : Int) (i : Int) false h7 := by
        intro h7 S'
        unfold qab.j7
        refine ifF rfl ((bdE _ _).2 ((bdE _ _).2 ?_))
        rw [wi]
        exact ih (i + 1) h7 (by omega) S'
      by_cases he : c' = c
      · subst he
        have h20 : (octM (callN c' j x.cl)).1 ≠ 20 := by rcases h50 with e | ⟨e, _⟩ <;> omega
        rw [cs_pass hcd hm hl h20]
        intro h7 S11
        refine ⟨_, _, rfl, (bdE _ _).2 ?_⟩
        rw [zev_al]
        have S12 := S11.al zev T.api_Event
        refine ⟨rfl, S12.putA (top h7) (ws := zev) rfl (by simp [one]) fun h8 S13 => ⟨_, S13.rc t 0 rfl, ?_⟩⟩
        refine ifF' (by simp [callN]) (ifF rfl (next S13.to))
      · have hd : c' = d := by omega
        subst hd
        rw [cs_ask hcd hm hl h50]
        intro h7 q S11
        refine ⟨_, _, rfl, (bdE _ _).2 ?_⟩
        rw [zev_al]
        have S12 := S11.al zev T.api_Event
        refine ⟨rfl, S12.putA (top h7) (ws := evc ⟨2, c', [], ⟨true, octM (callN c' j x.cl), (0, 0, []), []⟩, 0, 0, 0⟩ q) rfl (evc2_one (_, q)) fun h8 S13 => ⟨_, S13.rc t 0 rfl, ?_⟩⟩
        refine ifF' (by simp [callN]; omega) (ifT rfl ⟨_, S13.rc (top h7) 0 rfl, ifF' rfl ⟨_, S13.rc (top h7) 1 rfl, _, S13.rc t 0 rfl, ?_⟩⟩)
        rw [show (((c' : Nat) : Int) != (callN c' j x.cl).ch) = false by simp [callN]]
        exact next S13.to
    · refine ifF (by simp; omega) ?_
      unfold qab.j6
      exact ifF rfl (chans_j4 hcd S hK)
theorem ConnsChans.law (ch : Int) (hch : -9223372036854775808 ≤ ch ∧ ch < 9223372036854775808) (s : SV) (xs : List XCall) (sl : Sl 8 h s.1 s.2.1 (xs.flatMap xcall)) (le : s.2.1 ≤ s.2.2) (mx : s.2.2 ≤ maxLen)
    (w : ∀ x ∈ xs, (Lit.int .i64 x.1).wf = true ∧ (Lit.int .i64 x.2.1).wf = true ∧ (Lit.int .i64 x.2.2.1).wf = true ∧ (Lit.int .i64 x.2.2.2.1).wf = true ∧ x.2.2.2.2.1.length ≤ maxLen ∧ x.2.2.2.2.2.1.length ≤ maxLen ∧ x.2.2.2.2.2.2.1.length ≤ maxLen ∧ (Sl 1 h x.2.2.2.2.2.2.2.1.1 x.2.2.2.2.2.2.2.1.2.1 (u8s x.2.2.2.2.2.2.2.2) ∧ x.2.2.2.2.2.2.2.1.2.1 ≤ x.2.2.2.2.2.2.2.1.2.2 ∧ x.2.2.2.2.2.2.2.1.2.2 ≤ maxLen)) :
    CallsH P F.qab [.int .i64 ch, s.v] (fun v h' => v = .bool true ∧ Kept h h') h := by
  have wx : ∀ x ∈ xs, XOk h x := fun x hx => ⟨(w x hx).2.2.2.2.2.2.2.1, (w x hx).2.2.2.2.2.2.2.2.1, (w x hx).2.2.2.2.2.2.2.2.2⟩
  refine qab.ok ?_
  unfold qab.p0
  refine newCS (St.old h) fun a h1 S1 => ⟨_, rfl, ifF' rfl (awake25S S1 fun h2 S2 => ⟨_, rfl, ?_⟩)⟩
  unfold qab.j1
  refine ifF rfl (helloS S2 fun p l cc h3 S3 => ⟨_, _, _, rfl, ?_⟩)
  have hl := helloLen
  refine feedS (c := a) (s := cn0) (t := (p, l, cc)) (bs := helloP) S3.im (by decide) (by omega) fun h4 S4 => ⟨rfl, 21, ?_⟩
  refine chansL8 20 (cn0.feed helloP) 0 h4 rfl S4 (Inv.zero.feed (by show 0 + _ < _; omega)) fun h5 S5 => ?_
  rw [helloRun] at S5
  unfold qab.j2
  have ec : IntKind.i64.wrap (bitsI .and .i64 ch 1 + 1) = (((ch % 2).toNat + 1 : Nat) : Int) := by
    rw [m1, wrapI (by omega) (by omega)]; omega
  refine (bdE _ _).2 ?_
  rw [ec]
  obtain ⟨c, d, hc, hcd⟩ : ∃ c d : Nat, (ch % 2).toNat + 1 = c ∧ (c = 1 ∧ d = 2 ∨ c = 2 ∧ d = 1) := by
    by_cases e : ch % 2 = 0
    · exact ⟨1, 2, by omega, .inl ⟨rfl, rfl⟩⟩
    · exact ⟨2, 1, by omega, .inr ⟨rfl, rfl⟩⟩
  rw [hc]
  have e1 : closeChP hs0 (c : Int) 404 60 40 = ((closeChP hs0 (c : Int) 404 60 40).1, cs c d) := by rcases hcd with ⟨rfl, rfl⟩ | ⟨rfl, rfl⟩; exact chans_close1.1; exact chans_close1.2
  have e1l : (closeChP hs0 (c : Int) 404 60 40).1.length ≠ 0 := by rcases hcd with ⟨rfl, rfl⟩ | ⟨rfl, rfl⟩; exact chans_close1l.1; exact chans_close1l.2
  have e2 : closeChP (cs c d) (c : Int) 404 60 40 = ([], cs c d) := by rcases hcd with ⟨rfl, rfl⟩ | ⟨rfl, rfl⟩; exact chans_close2.1; exact chans_close2.2
  refine closeChS (c := a) (s := hs0) (ch := c) (n := 404) (cl := 60) (id := 40) S5 fun p1 l1 c1 h6 S6 => ⟨_, _, _, rfl, ?_⟩
  have n1 : l1 ≠ 0 := by
    have := (S6.osl 1 (p1, l1, c1)).1
    simp only [u8s_length, Nat.mul_one] at this
    rw [← this]; exact e1l
  rw [e1] at S6
  refine ifF' (by simpa using n1) ?_
  refine closeChS (c := a) (s := cs c d) (ch := c) (n := 404) (cl := 60) (id := 40) S6 fun p2 l2 c2 h7 S7 => ⟨_, _, _, rfl, ?_⟩
  rw [e2] at S7
  have n2 : l2 = 0 := by have := (S7.osl 1 (p2, l2, c2)).1; simpa [u8s] using this.symm
  refine ifF' (by rw [n2]; rfl) ?_
  have hkr : ∀ z ∈ (cs c d).asms, -9223372036854775808 ≤ z.1 ∧ z.1 < 9223372036854775808 := by intro z hz; simp [cs] at hz; subst hz; constructor <;> (simp only; omega)
  refine chansCS (c := a) (s := cs c d) S7 hkr (by show 1 ≤ 12; decide) fun ks t h8 hp S8 => ⟨_, _, _, rfl, ?_⟩
  have hp' : ks.Perm [(d : Int)] := hp
  have lt : t.2.1 = 1 := by
    have h1 := (S8.osl 1 t).1
    have h2 := hp'.length_eq
    simp at h1 h2
    omega
  refine ifF' (by rw [lt]; rfl) ?_
  refine chansCS (c := a) (s := cs c d) S8 hkr (by show 1 ≤ 12; decide) fun ks2 t2 h9 hp2 S9 => ⟨_, _, _, rfl, ?_⟩
  have hp2' : ks2 = [(d : Int)] := List.perm_singleton.1 hp2
  subst hp2'
  refine ix (C := fun z : Int => Value.int .i64 z) (xs := [(d : Int)]) (S9.osl 1 t2) (i := 0) (n := 0) rfl rfl ?_
  have w3 : IntKind.i64.wrap ((3 : Int) - (c : Int)) = (d : Int) := by rw [wrapI (by omega) (by omega)]; omega
  rw [w3, show (((d : Nat) : Int) != (d : Int)) = false by simp]
  unfold qab.j3
  refine ifF rfl ⟨21, ?_⟩
  exact chansL5 (h0 := h) (s := s) (xs := xs) hcd sl wx (fun h' k => ⟨rfl, k⟩) 20 0 h9 rfl S9.to
end
end Go.Proofs.YtjapglfpjhljpaaGreat.Pr
end
