/- line: the law's first look at it. -/
import Derived.Test.YtechpnlbkkfplaaLineR
import Derived.Test.YtechpnlbkkfplaaPrLaw17Awake
import Derived.Laws.StructEq
set_option linter.unusedVariables false
set_option linter.unusedSimpArgs false
namespace Go.Proofs.Ytechpnlbkkfplaa.Pr
open Go Go.Lift Go.Proofs

theorem ent_fields : P.fieldsOf T.api_Entry = #[⟨"ID", T.uint64, 0, false, "", "", 0⟩, ⟨"Again", T.bool, 1, false, "", "", 8⟩] := by kernel_rfl
theorem ent_guard : P.eqGuardType P.depth T.api_Entry = false := by kernel_rfl
theorem ent_und : P.underlying T.api_Entry = some (.struct (P.fieldsOf T.api_Entry)) := by kernel_rfl
theorem ent_held : P.stoodInHeld T.api_Entry = false := by kernel_rfl
theorem u_u64 : P.underlying T.uint64 = some (.int .u64) := by kernel_rfl
theorem u_bool : P.underlying T.bool = some .bool := by kernel_rfl
theorem eqFields_step {d : Nat} {xs ys : Array Value} {f : Field} {fs : List Field} {u v : Value} {c : Bool} {w : World} (hn : f.name ≠ "_") (h1 : (part f.type xs f.offset).run P w = .ok u w) (h2 : (part f.type ys f.offset).run P w = .ok v w)
    (h3 : (Op.equalIn d f.type u v).run P w = .ok c w) : (Op.eqFields d xs ys (f :: fs)).run P w = if c = true then (Op.eqFields d xs ys fs).run P w else .ok false w := by
  conv => lhs; unfold Op.eqFields
  rw [if_pos hn, Sem.run_bind, h1, Result.andThen_ok, Sem.run_bind, h2, Result.andThen_ok, Sem.run_bind, h3, Result.andThen_ok]
  cases c <;> simp
theorem entFields (a b : Int × Bool) (w : World) : (Op.eqFields 9999 (List.toArray (ecell a)) (List.toArray (ecell b)) (P.fieldsOf T.api_Entry).toList).run P w = .ok (decide (a = b)) w := by
  have p0 : ∀ (z : Int × Bool) (w : World), (part T.uint64 (List.toArray (ecell z)) 0).run P w = .ok (.int .u64 z.1) w := fun z w => run_part_scalar (by kernel_rfl) rfl
  have p1 : ∀ (z : Int × Bool) (w : World), (part T.bool (List.toArray (ecell z)) 1).run P w = .ok (.bool z.2) w := fun z w => run_part_scalar (by kernel_rfl) rfl
  have i0 := run_equalIn_int (P := P) w 9998 T.uint64 .u64 .u64 a.1 b.1 u_u64
  have i1 := run_equalIn_bool (P := P) w 9998 T.bool a.2 b.2 u_bool
  rw [ent_fields]
  have s0 := fun fs => eqFields_step (w := w) (f := ⟨"ID", T.uint64, 0, false, "", "", 0⟩) (fs := fs) (by decide) (p0 a w) (p0 b w) i0
  have s1 := fun fs => eqFields_step (w := w) (f := ⟨"Again", T.bool, 1, false, "", "", 8⟩) (fs := fs) (by decide) (p1 a w) (p1 b w) i1
  have s3 : (Op.eqFields 9999 (List.toArray (ecell a)) (List.toArray (ecell b)) []).run P w = .ok true w := by simp [Op.eqFields]
  show (Op.eqFields 9999 _ _ [⟨"ID", T.uint64, 0, false, "", "", 0⟩, ⟨"Again", T.bool, 1, false, "", "", 8⟩]).run P w = _
  rw [s0, s1, s3]
  obtain ⟨a0, a1⟩ := a
  obtain ⟨b0, b1⟩ := b
  by_cases h0 : a0 = b0 <;> by_cases h1 : a1 = b1 <;> simp [h0, h1]
theorem ecells_len : ∀ ys : List (Int × Bool), (ys.flatMap ecell).length = ys.length * 2
  | [] => rfl
  | y :: ys => by rw [List.flatMap_cons, List.length_append, ecells_len ys, List.length_cons]; simp [ecell]; omega
section
variable {K : KT} {h : Heap}
theorem entNeqS {a b : Int × Bool} (x y : Operand) (hK : K (.bool (decide (a ≠ b))) h) : SemH P (eqS .neq T.api_Entry x y (.agg (List.toArray (ecell a))) (.agg (List.toArray (ecell b)))) K h := by
  intro w hw
  refine ⟨.bool (decide (a ≠ b)), w, ?_, by rw [hw]; exact hK, Rest.refl w⟩
  simp only [eqS, Sem.run_bind, run_eqGuard_agg _ _ _ _ _ _ _ ent_guard, Result.andThen_ok, run_neq_struct, run_equalIn_agg _ _ _ _ _ ent_und ent_held]
  rw [entFields]
  simp
theorem entEqlS {a b : Int × Bool} (x y : Operand) (hK : K (.bool (decide (a = b))) h) : SemH P (eqS .eql T.api_Entry x y (.agg (List.toArray (ecell a))) (.agg (List.toArray (ecell b)))) K h := by
  intro w hw
  refine ⟨.bool (decide (a = b)), w, ?_, by rw [hw]; exact hK, Rest.refl w⟩
  simp only [eqS, Sem.run_bind, run_eqGuard_agg _ _ _ _ _ _ _ ent_guard, Result.andThen_ok, run_eql_struct, run_equalIn_agg _ _ _ _ _ ent_und ent_held]
  rw [entFields]
  simp

theorem awake17S {L : List Asr} {h : Heap} (S : St L h) (hK : ∀ h', St L h' → K (.bool true) h') : CallsH P F.waybilllaw17_awake [] K h := by
  refine waybilllaw17_awake.ok ?_
  unfold waybilllaw17_awake.p0
  have e1 : upd (upd ([] : List (Int × (Int × Bool))) 2 (2, false)) 1 (1, true) = [(2, (2, false)), (1, (1, true))] := by decide
  have e2 : upd ([] : List (Int × Int)) 1 1 = [(1, 1)] := by decide
  have least : ∀ {k i : Int} {b : Bool}, (k, (i, b)) ∈ ([(2, (2, false)), (1, (1, true))] : List (Int × (Int × Bool))) → (∀ x ∈ ([(2, (2, false)), (1, (1, true))] : List (Int × (Int × Bool))), k ≤ x.1) → k = 1 ∧ i = 1 ∧ b = true := by
    intro k i b hm hle
    have h1 := hle (1, (1, true)) (by simp)
    simp only [List.mem_cons, Prod.mk.injEq, List.not_mem_nil, or_false] at hm
    rcases hm with ⟨h2, _, _⟩ | ⟨h2, h3, h4⟩
    · subst h2; simp at h1
    · exact ⟨h2, h3, h4⟩
  refine newLineS S fun h1 l mr mh S1 => ⟨_, rfl, ifF rfl ?_⟩
  refine putLineS S1 (fun e => by simp [get?, fnd, hv] at e) fun _ _ _ h2 S2 => ⟨_, rfl, ?_⟩
  refine putLineS S2 (fun e => by simp [get?, fnd, hv, upd] at e) fun _ _ _ h3 S3 => ⟨_, rfl, ?_⟩
  rw [e1] at S3
  refine takeLineS S3 (by simp) (fun e => by cases e) fun k i b hm hle h4 S4 => ?_
  obtain ⟨rfl, rfl, rfl⟩ := least hm hle
  rw [e2, show del ([(2, (2, false)), (1, (1, true))] : List (Int × (Int × Bool))) 1 = [(2, (2, false))] by decide] at S4
  refine ⟨[.int .u64 1, .bool true], true, rfl, rfl, ?_⟩
  have S5 := S4.al [.int .u64 0, .bool false] T.api_Entry
  refine S5.wrA (ws := [.int .u64 1, .bool true]) rfl (by simp [one]) fun h6 S6 => ?_
  refine backLineS S6.p3.p3.p3 (fun e => by simp [hv, get?, fnd] at e) fun _ h7 S7 => ⟨_, rfl, ?_⟩
  rw [show upd ([(2, (2, false))] : List (Int × (Int × Bool))) 1 (1, true) = [(2, (2, false)), (1, (1, true))] by decide, show del ([(1, 1)] : List (Int × Int)) 1 = [] by decide] at S7
  refine takeLineS S7 (by simp) (fun e => by cases e) fun k i b hm hle h8 S8 => ?_
  obtain ⟨rfl, rfl, rfl⟩ := least hm hle
  rw [e2, show del ([(2, (2, false)), (1, (1, true))] : List (Int × (Int × Bool))) 1 = [(2, (2, false))] by decide] at S8
  refine ⟨[.int .u64 1, .bool true], true, rfl, rfl, ?_⟩
  have S9 := S8.al [.int .u64 0, .bool false] T.api_Entry
  refine S9.wrA (ws := [.int .u64 1, .bool true]) rfl (by simp [one]) fun h10 S10 => ?_
  refine ifT rfl (ifT rfl ?_)
  refine S10.p4.rdA (n := 2) rfl ?_
  refine entEqlS (a := (1, true)) (b := (1, true)) _ _ ⟨_, rfl, ifT rfl (ifT rfl (ifT rfl ?_))⟩
  refine S10.rdA (n := 2) rfl ?_
  refine entEqlS (a := (1, true)) (b := (1, true)) _ _ ⟨_, rfl, ifT rfl (ifT rfl ?_)⟩
  refine readyLineS S10.p3.p3.p3 (by simp) (by simp) fun h11 o ks p _ S11 => ⟨_, _, _, rfl, ?_⟩
  have l1 : ks.length = 1 := by rw [p.length_eq]; rfl
  have l2 : o.2.1 = 1 := by have := S11.ow.1; rw [ecells_len, List.length_map, l1] at this; omega
  refine ifT (by simp [l2]) (heldLineS S11.tl (by simp) (by simp) fun h12 s ks' p' _ S12 => ⟨_, _, _, rfl, ?_⟩)
  have l3 : ks'.length = 1 := by rw [p'.length_eq]; rfl
  have l4 : s.2.1 = 1 := by have := S12.ow.1; simp [l3] at this; omega
  refine ifT (by simp [l4]) (putLineS S12.tl (fun _ h13 S13 => ⟨_, rfl, ?_⟩) fun _ e => absurd rfl e)
  exact hK h13 S13.tl.tl.tl.tl.tl
end
end Go.Proofs.Ytechpnlbkkfplaa.Pr
