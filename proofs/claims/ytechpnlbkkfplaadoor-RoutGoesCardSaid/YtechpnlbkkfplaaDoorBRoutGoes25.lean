/- routGoes_holds: all that the theorem needs, in a few texts (bundle.py; made of the texts that NOTES.md names). -/
import Derived.Below
import Derived.Carry
import Derived.ChangeOld
import Derived.ChangeShapes
import Derived.DeepKeys4
import Derived.KernelRfl
import Derived.Laws.Append
import Derived.Laws.Bits64
import Derived.Laws.BitsAllLaws
import Derived.Laws.BitsLemmas
import Derived.Laws.IdiomStrings
import Derived.Laws.Sem
import Derived.Laws.Strings
import Derived.Laws.StructEq
import Derived.Lib.ItoaNum
import Derived.LoopIn
import Derived.LoopN
import Derived.LoopNIn
import Derived.MapKept
import Derived.Maps.AppendAt
import Derived.Maps.RangeRun
import Derived.OpenShut
import Derived.Orders
import Derived.OwnWalkIn
import Derived.RangeFuncGives
import Derived.RangeFuncSeq
import Derived.RegionIn
import Derived.Shelf.Abstract
import Derived.Shelf.Lay
import Derived.Shelf.LaysM
import Derived.Shelf.SlIter.Collect
import Derived.Shelf.SlMaps.Clone
import Derived.Shelf.Slices.Cells
import Derived.Shelf.Slices.CompactS
import Derived.Shelf.Slices.In.SortNone
import Derived.Shelf.Small.Bits
import Derived.Shelf.Sort.Plain
import Derived.Shelf.Strconv.Itoa0
import Derived.Shelf.Strings.Count
import Derived.Shelf.Strings.Explode
import Derived.Shelf.Strings.RuneCount
import Derived.Shelf.Strings.Search1
import Derived.Shelf.Strings.Search2
import Derived.Shelf.Strings.Search3
import Derived.Shelf.Strings.Shaped
import Derived.Shelf.Strings.Split
import Derived.Shelf.Strings.SplitShaped
import Derived.Shelf.Unicode.Decode
import Derived.Shelf.Unicode.DecodeAny
import Derived.Shelf.Unicode.DecodeSlow
import Derived.Shelf.Utf8.RuneCount
import Derived.Sort.KeysCollected
import Derived.Sort.MapsRangeIn
import Derived.TacticsInMore
import Derived.Test.YtechpnlbkkfplaaDoorChecked
import Derived.Test.YtechpnlbkkfplaaDoorProg
import Derived.WalkKit
import Derived.WideLaws
import Derived.WideShapes
import Derived.Test.YtechpnlbkkfplaaDoorBRoutGoes2
import Derived.Test.YtechpnlbkkfplaaDoorBRoutGoes3
import Derived.Test.YtechpnlbkkfplaaDoorBRoutGoes4
import Derived.Test.YtechpnlbkkfplaaDoorBRoutGoes5
import Derived.Test.YtechpnlbkkfplaaDoorBRoutGoes6
import Derived.Test.YtechpnlbkkfplaaDoorBRoutGoes7
import Derived.Test.YtechpnlbkkfplaaDoorBRoutGoes8
import Derived.Test.YtechpnlbkkfplaaDoorBRoutGoes9
import Derived.Test.YtechpnlbkkfplaaDoorBRoutGoes10
import Derived.Test.YtechpnlbkkfplaaDoorBRoutGoes11
import Derived.Test.YtechpnlbkkfplaaDoorBRoutGoes12
import Derived.Test.YtechpnlbkkfplaaDoorBRoutGoes13
import Derived.Test.YtechpnlbkkfplaaDoorBRoutGoes14
import Derived.Test.YtechpnlbkkfplaaDoorBRoutGoes16
import Derived.Test.YtechpnlbkkfplaaDoorBRoutGoes17
import Derived.Test.YtechpnlbkkfplaaDoorBRoutGoes18
import Derived.Test.YtechpnlbkkfplaaDoorBRoutGoes19
import Derived.Test.YtechpnlbkkfplaaDoorBRoutGoes20
import Derived.Test.YtechpnlbkkfplaaDoorBRoutGoes21
import Derived.Test.YtechpnlbkkfplaaDoorBRoutGoes22
import Derived.Test.YtechpnlbkkfplaaDoorBRoutGoes23
import Derived.Test.YtechpnlbkkfplaaDoorBRoutGoes24
section
set_option linter.unusedVariables false
set_option linter.unusedSimpArgs false
namespace Go.Proofs.YtechpnlbkkfplaaDoor.Pr
open Go Go.Lift Go.Proofs
abbrev fl {α : Type} (p : α → Bool) (l : List α) (n : Nat) : Nat := ((l.take n).filter p).length
theorem fl_succ {α : Type} (p : α → Bool) {l : List α} {n : Nat} {x : α} (h : l[n]? = some x) : fl p l (n + 1) = fl p l n + if p x then 1 else 0 := by
  unfold fl
  rw [List.take_add_one, h, List.filter_append, List.length_append]
  cases hp : p x <;> simp [hp]
theorem fl_all {α : Type} (p : α → Bool) (l : List α) : fl p l l.length = (l.filter p).length := by unfold fl; rw [List.take_length]
theorem fl_at {α : Type} (p : α → Bool) {l : List α} {n : Nat} {x : α} (h : l[n]? = some x) (hp : p x = true) : (l.filter p)[fl p l n]? = some x := by
  obtain ⟨hn, e⟩ := List.getElem?_eq_some_iff.1 h
  have hd : l.drop n = x :: l.drop (n + 1) := by rw [← e]; exact List.drop_eq_getElem_cons hn
  have : l.filter p = (l.take n).filter p ++ x :: (l.drop (n + 1)).filter p := by
    conv => lhs; rw [← List.take_append_drop n l]
    rw [List.filter_append, hd, List.filter_cons_of_pos hp]
  rw [this, List.getElem?_append_right (Nat.le_refl _)]
  simp
section
variable {K : KT} {L : List Asr} {h : Heap} {t nm : SV} {xs : List BN} {queue : List UInt8} {r c : Addr} {B : List BN} {k : Int}
theorem two_ok {s t : SV} {A B : List BN} {i n : Nat} {x : BN} {o1 o2 : Operand} {C : Bool → Heap → Prop} (ha : Sl 3 h s.1 s.2.1 (A.flatMap bc)) (hall : Sl 3 h t.1 t.2.1 (B.flatMap bc)) (hi : A[i]? = some x) (hn : B[n]? = some x) (hC : C false h) :
    ((decide ((i : Int) ≥ ((s.2.1 : Nat) : Int))) = false → ∃ p, s.1 = some p ∧ (0 : Int) ≤ (i : Int) ∧ (i : Int) < ((s.2.1 : Nat) : Int) ∧ ∃ p2, t.1 = some p2 ∧ (0 : Int) ≤ (n : Int) ∧ (n : Int) < ((t.2.1 : Nat) : Int) ∧
      ∃ cs, rdC h (Addr.add p (Int.toNat (i : Int) * 3)) 0 3 = some cs ∧ ∃ cs2, rdC h (Addr.add p2 (Int.toNat (n : Int) * 3)) 0 3 = some cs2 ∧ SemH P (eqS .neq T.api_Bind o1 o2 (.agg (List.toArray cs)) (.agg (List.toArray cs2))) (fun v h' => ∃ b, v = .bool b ∧ C b h') h) ∧
    ((decide ((i : Int) ≥ ((s.2.1 : Nat) : Int))) = true → C true h) := by
  obtain ⟨p, e1, e2, e3, cs, e4, rfl⟩ := ixS bc3 (by decide) ha (i := (i : Int)) rfl hi (R := fun cs => cs = bc x) rfl
  obtain ⟨p2, f1, f2, f3, cs2, f4, rfl⟩ := ixS bc3 (by decide) hall (i := (n : Int)) rfl hn (R := fun cs => cs = bc x) rfl
  refine ⟨fun _ => ⟨p, e1, e2, e3, p2, f1, f2, f3, _, e4, _, f4, ?_⟩, fun e => absurd (of_decide_eq_true e) (by omega)⟩
  refine bindNeqS _ _ ⟨_, rfl, ?_⟩
  rw [decide_eq_false (fun h => h rfl)]
  exact hC
abbrev q1 (name : List UInt8) : BN → Bool := fun b => b.1 == name
abbrev n1 (name : List UInt8) : BN → Bool := fun b => !(b.1 == name)
abbrev q2 (queue : List UInt8) : BN → Bool := fun b => b.2.1 == queue
abbrev n2 (queue : List UInt8) : BN → Bool := fun b => !(b.2.1 == queue)
theorem rg_loop {name : List UInt8} {al a b x y : SV} (hl : B.length ≤ 1000) (hal : Sl 3 h al.1 al.2.1 (B.flatMap bc)) (ha : Sl 3 h a.1 a.2.1 ((B.filter (q1 name)).flatMap bc)) (hb : Sl 3 h b.1 b.2.1 ((B.filter (q2 queue)).flatMap bc))
    (hx : Sl 3 h x.1 x.2.1 ((B.filter (n1 name)).flatMap bc)) (hy : Sl 3 h y.1 y.2.1 ((B.filter (n2 queue)).flatMap bc))
    (hK : qag.j4 K (some r) name (some c) a.1 a.2.1 a.2.2 b.1 b.2.1 b.2.2 x.1 x.2.1 x.2.2 y.1 y.2.1 y.2.2 (fl (q1 name) B B.length) (fl (n1 name) B B.length) (fl (q2 queue) B B.length) (fl (n2 queue) B B.length) h) :
    ∀ (fuel n : Nat), B.length - n < fuel → n ≤ B.length → qag.L5 K fuel queue (some r) al.1 al.2.1 al.2.2 name (some c) a.1 a.2.1 a.2.2 b.1 b.2.1 b.2.2 x.1 x.2.1 x.2.2 y.1 y.2.1 y.2.2 (fl (q1 name) B n) (fl (n1 name) B n) (fl (q2 queue) B n) (fl (n2 queue) B n) n h
  | 0, _, hf, _ => absurd hf (Nat.not_lt_zero _)
  | fuel + 1, n, hf, hn => by
    have el : al.2.1 = B.length := by have := hal.1; rw [flat_length bc3] at this; omega
    have fle : ∀ p : BN → Bool, fl p B n ≤ 1000 := fun p => Nat.le_trans (List.length_filter_le _ _) (by rw [List.length_take]; omega)
    unfold qag.L5
    by_cases hlt : n < B.length
    · have hB : B[n]? = some B[n] := List.getElem?_eq_getElem hlt
      obtain ⟨p, ep, p0, p1, pc⟩ := ixF bc3 (by decide) hal (i := (n : Int)) (n := n) rfl hB
      refine ifT (by simp; omega) ⟨p, ep, p0, p1, _, pc 0 _ rfl, ?_⟩
      have wr : ∀ m : Nat, m ≤ 1000 → IntKind.i64.wrap ((m : Int) + 1) = ((m + 1 : Nat) : Int) := fun m hm => by rw [wrapI (by omega) (by omega)]; omega
      have next := rg_loop hl hal ha hb hx hy hK fuel (n + 1) (by omega) (by omega)
      have s1 := fl_succ (q1 name) hB
      have s2 := fl_succ (n1 name) hB
      have s3 := fl_succ (q2 queue) hB
      have s4 := fl_succ (n2 queue) hB
      rw [s1, s2, s3, s4] at next
      have j7 : ∀ i j : Nat, i = fl (q1 name) B n + (if q1 name B[n] then 1 else 0) → j = fl (n1 name) B n + (if n1 name B[n] then 1 else 0) →
          qag.j7 K (qag.L5 K fuel) queue (some r) al.1 al.2.1 al.2.2 name (some c) a.1 a.2.1 a.2.2 b.1 b.2.1 b.2.2 x.1 x.2.1 x.2.2 y.1 y.2.1 y.2.2 i j (fl (q2 queue) B n) (fl (n2 queue) B n) n h := fun i j ei ej => by
        unfold qag.j7
        refine ⟨p, ep, p0, p1, _, pc 1 _ rfl, ?_⟩
        cases e2 : (B[n].2.1 == queue) with
        | true =>
          refine ifT rfl (two_ok hb hal (fl_at _ hB e2) hB ?_)
          unfold qag.j8
          refine ifF rfl ?_
          unfold bd
          unfold qag.j6
          unfold bd
          rw [wr _ (fle _), wr n (by omega), ei, ej]
          have t3 : (if q2 queue B[n] = true then 1 else 0) = 1 := if_pos e2
          have t4 : (if n2 queue B[n] = true then 1 else 0) = 0 := if_neg (by show ¬ (!(B[n].2.1 == queue)) = true; rw [e2]; decide)
          rw [t3, t4] at next
          exact next
        | false =>
          refine ifF rfl (two_ok hy hal (fl_at _ hB (by show (!(B[n].2.1 == queue)) = true; rw [e2]; rfl)) hB ?_)
          unfold qag.j9
          refine ifF rfl ?_
          unfold bd
          unfold qag.j6
          unfold bd
          rw [wr _ (fle _), wr n (by omega), ei, ej]
          have t3 : (if q2 queue B[n] = true then 1 else 0) = 0 := if_neg (by show ¬ (B[n].2.1 == queue) = true; rw [e2]; decide)
          have t4 : (if n2 queue B[n] = true then 1 else 0) = 1 := if_pos (by show (!(B[n].2.1 == queue)) = true; rw [e2]; rfl)
          rw [t3, t4] at next
          exact next
      cases e1 : (B[n].1 == name) with
      | true =>
        refine ifT rfl (two_ok ha hal (fl_at _ hB e1) hB ?_)
        unfold qag.j10
        refine ifF rfl ?_
        unfold bd
        rw [wr _ (fle _)]
        exact j7 _ _ (by rw [show (if q1 name B[n] = true then 1 else 0) = 1 from if_pos e1]) (by rw [show (if n1 name B[n] = true then 1 else 0) = 0 from if_neg (by show ¬ (!(B[n].1 == name)) = true; rw [e1]; decide)]; rfl)
      | false =>
        refine ifF rfl (two_ok hx hal (fl_at _ hB (by show (!(B[n].1 == name)) = true; rw [e1]; rfl)) hB ?_)
        unfold qag.j11
        refine ifF rfl ?_
        unfold bd
        rw [wr _ (fle _)]
        exact j7 _ _ (by rw [show (if q1 name B[n] = true then 1 else 0) = 0 from if_neg (by show ¬ (B[n].1 == name) = true; rw [e1]; decide)]; rfl) (by rw [show (if n1 name B[n] = true then 1 else 0) = 1 from if_pos (by show (!(B[n].1 == name)) = true; rw [e1]; rfl)])
    · have : n = B.length := by omega
      subst this
      exact ifF (by simp; omega) hK
theorem nms_gone (j : Nat) (hj : j < 3) : xget (X0.filter fun x => decide (x.1 ≠ nms.getD j [])) (nms.getD j []) = none ∧ (X0.filter fun x => decide (x.1 ≠ nms.getD j [])).length = 3 := by
  match j, hj with
  | 0, _ => decide +kernel
  | 1, _ => decide +kernel
  | 2, _ => decide +kernel
theorem rg_fin {h0 : Heap} (g : G h0) (m : Old h0 ∈ L) (hl : B.length ≤ 1000) (hK : ∀ h', St (KL t nm xs L) h' → K (.bool true) h') (S : St (RtW r X0 B :: KL t nm xs L) h) :
    qag.j3 K k queue (some r) nm.1 nm.2.1 nm.2.2 h := by
  have M : Old h0 ∈ KL t nm xs L := List.mem_cons_of_mem _ (List.mem_cons_of_mem _ m)
  unfold qag.j3
  refine bindsRt S (by omega) fun h1 sal S1 => ⟨_, _, _, rfl, by decide, ?_⟩
  obtain ⟨j, hj, ej⟩ := tmodN (n := 3) (a := bitsI .and .i64 k 255) (by rw [m255]; omega) (by decide)
  rw [show (3 : Int) = ((3 : Nat) : Int) from rfl, ej]
  have hn : (nms.map Lift.encS)[j]? = some (Lift.encS (nms.getD j [])) := by
    match j, hj with
    | 0, _ => rfl
    | 1, _ => rfl
    | 2, _ => rfl
  refine ixV (n := j) S1.p2.sl rfl hn fun p ep cp => ⟨_, cp, ?_⟩
  obtain ⟨g1, g2⟩ := nms_gone j hj
  generalize nms.getD j [] = name at *
  refine copyRt S1.p1 fun h2 c S2 => ⟨_, rfl, ifF rfl ?_⟩
  refine dropRt (n := name) S2.p1 (by omega) fun h3 sa S3 => ⟨_, _, _, rfl, ?_⟩
  refine freeRt (n := queue) S3.p2 (by omega) fun h4 sb S4 => ⟨_, _, _, rfl, ?_⟩
  refine bindsRt S4.p3 (by have := List.length_filter_le (fun b : BN => !(b.1 == name)) B; omega) fun h5 sx S5 => ⟨_, _, _, rfl, ?_⟩
  refine bindsRt S5.p3 (by have := List.length_filter_le (fun b : BN => !(b.2.1 == queue)) B; omega) fun h6 sy S6 => ⟨_, _, _, rfl, B.length + 1, ?_⟩
  have S7 : St (RtW c X0 (B.filter (n2 queue)) :: RtW r (X0.filter fun x => decide (x.1 ≠ name)) (B.filter (n1 name)) :: Ow 3 sy ((B.filter (n2 queue)).flatMap bc) :: Ow 3 sx ((B.filter (n1 name)).flatMap bc) :: Ow 3 sb ((B.filter (q2 queue)).flatMap bc) :: Ow 3 sa ((B.filter (q1 name)).flatMap bc) :: Ow 3 sal (B.flatMap bc) :: KL t nm xs L) h6 := S6.to
  have z : fl (q1 name) B 0 = 0 ∧ fl (n1 name) B 0 = 0 ∧ fl (q2 queue) B 0 = 0 ∧ fl (n2 queue) B 0 = 0 := ⟨rfl, rfl, rfl, rfl⟩
  refine rg_loop (name := name) (al := sal) (a := sa) (b := sb) (x := sx) (y := sy) hl S7.p6.sl S7.p5.sl S7.p4.sl S7.p3.sl S7.p2.sl ?_ (B.length + 1) 0 (by omega) (Nat.zero_le _)
  rw [fl_all, fl_all, fl_all, fl_all]
  unfold qag.j4
  have eq3 : ∀ {s : SV} {l : List BN} {h}, Sl 3 h s.1 s.2.1 (l.flatMap bc) → ((((l.length : Nat) : Int)) == ((s.2.1 : Nat) : Int)) = true := fun {s l h} sl => by
    have := sl.1; rw [flat_length bc3] at this; exact beq_iff_eq.2 (by omega)
  refine getRt (n := name) S7.p1 fun h7 S8 => ⟨_, _, rfl, ?_⟩
  rw [g1]
  refine St.bd1 (cs := zx) S8 fun S9 => ⟨rfl, S9.wrA (ws := zx) rfl (fun w hw => xO_one none w hw) fun h8 S10 => ?_⟩
  have S10 := S10.tl
  refine ifT (eq3 S10.p5.sl) (ifT (eq3 S10.p3.sl) (ifT (eq3 S10.p4.sl) (ifT (eq3 S10.p2.sl) (ifT rfl ?_))))
  refine namesRt S10 (by rw [g2]; decide) fun h9 s S11 => ⟨_, _, _, rfl, ?_⟩
  have e1 : s.2.1 = 3 := by have := S11.ow.1; simp only [List.length_map] at this; omega
  rw [e1]
  refine ifT rfl ?_
  refine namesRt S11.p2 (by decide) fun h10 s S12 => ⟨_, _, _, rfl, ?_⟩
  have e2 : s.2.1 = 4 := by have := S12.ow.1; simpa using this.symm
  rw [e2]
  refine ifT rfl (awake16S (L := KL t nm xs L) g M S12.to fun h11 S13 => ⟨_, rfl, hK h11 S13⟩)
theorem rg_made {h0 : Heap} (g : G h0) (m : Old h0 ∈ L) (wx : ∀ x ∈ xs, x.2.1.length ≤ maxLen ∧ x.2.2.length ≤ maxLen)
    (hK : ∀ h', St (KL t nm xs L) h' → K (.bool true) h') :
    ∀ (fuel i : Nat) (B : List BN) (h : Heap), xs.length - i < fuel → i ≤ min xs.length 40 → RK xs i B → St (RtW r X0 B :: KL t nm xs L) h →
      qag.L12 K fuel t.1 t.2.1 t.2.2 k queue (some r) nm.1 nm.2.1 nm.2.2 i h
  | 0, _, _, _, hf, _, _, _ => absurd hf (Nat.not_lt_zero _)
  | fuel + 1, i, B, h, hf, hi, rk, S => by
    have M : Old h0 ∈ KL t nm xs L := List.mem_cons_of_mem _ (List.mem_cons_of_mem _ m)
    have sl : Sl 3 h t.1 t.2.1 (xs.flatMap bc) := S.isl 3 t
    have lt : t.2.1 = xs.length := by have := sl.1; rw [flat_length bc3] at this; omega
    have outF : qag.j13 K (qag.L12 K fuel) t.1 t.2.1 t.2.2 k queue (some r) nm.1 nm.2.1 nm.2.2 i false h := by
      unfold qag.j13
      exact ifF rfl (rg_fin g m (by have := rk.len; omega) hK S)
    unfold qag.L12
    by_cases hlt : i < xs.length
    · refine ifT (by simp; omega) ?_
      by_cases h40 : i < 40
      · rw [decide_eq_true (show (i : Int) < 40 by omega)]
        have hx : xs[i]? = some xs[i] := List.getElem?_eq_getElem hlt
        have hw := wx _ (List.getElem_mem hlt)
        obtain ⟨p, ep, p0, p1, pc⟩ := ixF bc3 (by decide) sl (i := (i : Int)) (n := i) rfl hx
        obtain ⟨e1, e2⟩ := rkB_at hlt
        have jT : qag.j14 K (qag.L12 K fuel) t.1 t.2.1 t.2.2 k queue (some r) nm.1 nm.2.1 nm.2.2 i true h := by
          unfold qag.j14
          exact ifT rfl (awake16S g (List.mem_cons_of_mem _ M) S fun h8 S8 => ⟨_, rfl, hK h8 S8.tl⟩)
        unfold qag.j13
        refine ifT rfl ⟨p, ep, p0, p1, _, pc 1 _ rfl, ?_⟩
        by_cases hq : xs[i].2.1.length ≤ 60
        · refine ifF' (by simp; omega) ⟨p, ep, p0, p1, _, pc 2 _ rfl, ?_⟩
          by_cases hk : xs[i].2.2.length ≤ 100
          · rw [decide_eq_false (by omega)]
            unfold qag.j14
            have hm3 : i % 3 < 3 := Nat.mod_lt _ (by decide)
            have hn : (nms.map Lift.encS)[i % 3]? = some (Lift.encS (nms.getD (i % 3) [])) := by
              generalize i % 3 = k at hm3
              match k, hm3 with
              | 0, _ => rfl
              | 1, _ => rfl
              | 2, _ => rfl
            refine ifF rfl ⟨by decide, ?_⟩
            rw [tmod3]
            refine ixV (n := i % 3) S.p1.sl rfl hn fun a ea ca => ⟨p, ep, p0, p1, p, ep, p0, p1, _, ca, _, pc 1 _ rfl, _, pc 2 _ rfl, ?_⟩
            obtain ⟨x, hxg, hne, _⟩ := nms_x (i % 3) hm3
            have eb : rkB xs i = (nms.getD (i % 3) [], xs[i].2.1, xs[i].2.2) := Prod.ext rfl (Prod.ext e1 e2)
            have hst := rk.step (by rw [e2]; omega)
            have next : ∀ B' h', RK xs (i + 1) B' → St (RtW r X0 B' :: KL t nm xs L) h' → bd ((IntKind.i64.wrap ((i : Int) + 1)) : Int) fun n80 => qag.L12 K fuel t.1 t.2.1 t.2.2 k queue (some r) nm.1 nm.2.1 nm.2.2 n80 h' := fun B' h' rk' S' => by
              unfold bd
              rw [show IntKind.i64.wrap ((i : Int) + 1) = ((i + 1 : Nat) : Int) from by rw [wrapI (by omega) (by omega)]; omega]
              exact rg_made g m wx hK fuel (i + 1) B' h' (by omega) (by omega) rk' S'
            rw [eb] at hst
            have lm : (nms.getD (i % 3) []).length ≤ 100 := by
              generalize i % 3 = k at hm3
              match k, hm3 with
              | 0, _ => decide
              | 1, _ => decide
              | 2, _ => decide
            refine bindRt (b := (nms.getD (i % 3) [], xs[i].2.1, xs[i].2.2)) S (okB_lt (by show (nms.getD (i % 3) []).length < 1000; omega) (by show xs[i].2.1.length < 1000; omega) (by show xs[i].2.2.length < 1000; omega)) (fun e h' S' => ⟨_, rfl, next B h' ?_ S'⟩) fun _ _ e h' S' => ⟨_, rfl, next _ h' (hst.2 e) S'⟩
            refine hst.1 ?_
            rcases e with e | e | e
            · have e : xget X0 (nms.getD (i % 3) []) = none := e
              rw [hxg] at e; cases e
            · exact absurd e hne
            · exact e
          · rw [decide_eq_true (by omega)]
            exact jT
        · exact ifT' (by simp; omega) jT
      · rw [decide_eq_false (show ¬ (i : Int) < 40 by omega)]
        exact outF
    · exact ifF (by simp; omega) outF
end
theorem RoutGoes.law {h : Heap} (s : SV) (xs : List BN) (sl : Sl 3 h s.1 s.2.1 (xs.flatMap bc)) (le : s.2.1 ≤ s.2.2) (mx : s.2.2 ≤ maxLen) (wx : ∀ x ∈ xs, x.1.length ≤ maxLen ∧ x.2.1.length ≤ maxLen ∧ x.2.2.length ≤ maxLen)
    (k : Int) (wk : -9223372036854775808 ≤ k ∧ k < 9223372036854775808) (queue : List UInt8) (wq : queue.length ≤ maxLen) (g : G h) :
    CallsH P F.qag [s.v, .int .i64 k, .string (mkS queue)] (fun v h' => v = .bool true ∧ Kept h h') h := by
  refine qag.ok ?_
  unfold qag.p0
  have S0 : St (Im 3 s (xs.flatMap bc) :: [Old h]) h := (St.old h).imOld (List.mem_cons_self ..) sl le
  have m : Old h ∈ [Old h] := List.mem_cons_self ..
  refine newRt S0 fun h1 r S1 => ⟨_, rfl, ifF' rfl ?_⟩
  by_cases hk : queue.length ≤ 60
  · rw [decide_eq_false (by omega)]
    unfold qag.j1
    refine ifF rfl ?_
    refine St.bd1 (cs := nms.map Lift.encS) S1 fun S2 => ?_
    unfold bd
    have S3 : St (RtW r X0 [] :: KL s (some (top h1), 3, 3) xs [Old h]) (al h1 (nms.map Lift.encS).toArray T.string) := (S2.bxOw (n := 3) (sz := 1) rfl).p1
    exact ⟨xs.length + 1, rg_made (nm := (some (top h1), 3, 3)) g m (fun x hx => (wx x hx).2) (fun h' S' => ⟨rfl, S'.tl.tl.keptOld m⟩) _ 0 [] _ (by omega) (Nat.zero_le _) ⟨by simp, by simp, by simp⟩ S3⟩
  · rw [decide_eq_true (by omega)]
    unfold qag.j1
    refine ifT rfl (ifT rfl (awake16S g (List.mem_cons_of_mem _ (List.mem_cons_of_mem _ m)) S1 fun h2 S2 => ⟨_, rfl, ?_⟩))
    unfold qag.j2
    exact ⟨rfl, S2.tl.tl.keptOld m⟩
end Go.Proofs.YtechpnlbkkfplaaDoor.Pr
end
