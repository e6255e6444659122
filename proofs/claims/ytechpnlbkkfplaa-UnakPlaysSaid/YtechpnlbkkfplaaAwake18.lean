/- unak: the laws' first look at it; holds compared. -/
import Derived.Test.YtechpnlbkkfplaaUnakS
import Derived.Test.YtechpnlbkkfplaaAwake17
import Derived.Test.YtechpnlbkkfplaaPrLaw18Awake
set_option linter.unusedVariables false
set_option linter.unusedSimpArgs false
namespace Go.Proofs.Ytechpnlbkkfplaa.Pr
open Go Go.Lift Go.Proofs

theorem hld_fields : P.fieldsOf T.api_Hold = #[⟨"Queue", T.string, 0, false, "", "", 0⟩, ⟨"ID", T.uint64, 1, false, "", "", 16⟩] := by kernel_rfl
theorem hld_guard : P.eqGuardType P.depth T.api_Hold = false := by kernel_rfl
theorem hld_und : P.underlying T.api_Hold = some (.struct (P.fieldsOf T.api_Hold)) := by kernel_rfl
theorem hld_held : P.stoodInHeld T.api_Hold = false := by kernel_rfl
theorem u_str : P.underlying T.string = some .string := by kernel_rfl
theorem hldFields (a b : Hld) (w : World) : (Op.eqFields 9999 (List.toArray (hdc a)) (List.toArray (hdc b)) (P.fieldsOf T.api_Hold).toList).run P w = .ok (decide (a = b)) w := by
  have p0 : ∀ (z : Hld) (w : World), (part T.string (List.toArray (hdc z)) 0).run P w = .ok (.string (mkS z.1)) w := fun z w => run_part_scalar (by kernel_rfl) rfl
  have p1 : ∀ (z : Hld) (w : World), (part T.uint64 (List.toArray (hdc z)) 1).run P w = .ok (.int .u64 z.2) w := fun z w => run_part_scalar (by kernel_rfl) rfl
  have i0 := run_equalIn_string (P := P) w 9998 T.string (mkS a.1) (mkS b.1) u_str
  have i1 := run_equalIn_int (P := P) w 9998 T.uint64 .u64 .u64 a.2 b.2 u_u64
  rw [hld_fields]
  have s0 := fun fs => eqFields_step (w := w) (f := ⟨"Queue", T.string, 0, false, "", "", 0⟩) (fs := fs) (by decide) (p0 a w) (p0 b w) i0
  have s1 := fun fs => eqFields_step (w := w) (f := ⟨"ID", T.uint64, 1, false, "", "", 16⟩) (fs := fs) (by decide) (p1 a w) (p1 b w) i1
  have s3 : (Op.eqFields 9999 (List.toArray (hdc a)) (List.toArray (hdc b)) []).run P w = .ok true w := by simp [Op.eqFields]
  show (Op.eqFields 9999 _ _ [⟨"Queue", T.string, 0, false, "", "", 0⟩, ⟨"ID", T.uint64, 1, false, "", "", 16⟩]).run P w = _
  rw [s0, s1, s3]
  obtain ⟨a0, a1⟩ := a
  obtain ⟨b0, b1⟩ := b
  by_cases h0 : a0 = b0 <;> by_cases h1 : a1 = b1 <;> simp [ByteArray.toList_eq, mkS, h0, h1]
theorem hdc_len2 : ∀ ys : List Hld, (ys.flatMap hdc).length = ys.length * 2 := fun ys => flat_length hdc2 ys
section
variable {K : KT} {h : Heap}
theorem hldNeqS {a b : Hld} (x y : Operand) (hK : K (.bool (decide (a ≠ b))) h) : SemH P (eqS .neq T.api_Hold x y (.agg (List.toArray (hdc a))) (.agg (List.toArray (hdc b)))) K h := by
  intro w hw
  refine ⟨.bool (decide (a ≠ b)), w, ?_, by rw [hw]; exact hK, Rest.refl w⟩
  simp only [eqS, Sem.run_bind, run_eqGuard_agg _ _ _ _ _ _ _ hld_guard, Result.andThen_ok, run_neq_struct, run_equalIn_agg _ _ _ _ _ hld_und hld_held]
  rw [hldFields]
  simp
theorem hldEqlS {a b : Hld} (x y : Operand) (hK : K (.bool (decide (a = b))) h) : SemH P (eqS .eql T.api_Hold x y (.agg (List.toArray (hdc a))) (.agg (List.toArray (hdc b)))) K h := by
  intro w hw
  refine ⟨.bool (decide (a = b)), w, ?_, by rw [hw]; exact hK, Rest.refl w⟩
  simp only [eqS, Sem.run_bind, run_eqGuard_agg _ _ _ _ _ _ _ hld_guard, Result.andThen_ok, run_eql_struct, run_equalIn_agg _ _ _ _ _ hld_und hld_held]
  rw [hldFields]
  simp

theorem awake18S {L : List Asr} {h : Heap} (S : St L h) (hK : ∀ h', St L h' → K (.bool true) h') : CallsH P F.waybilllaw18_awake [] K h := by
  refine waybilllaw18_awake.ok ?_
  unfold waybilllaw18_awake.p0
  let a : Hld := ([113], 5)
  let b : Hld := ([113], 7)
  refine newUnakW S fun h1 u S1 => ⟨_, rfl, ifF rfl ?_⟩
  refine addUnakW (x := a) S1 (by omega) fun h2 S2 => ⟨0 + 1, rfl, ?_⟩
  refine tagUnakW S2 (by omega) fun h3 S3 => ⟨0 + 1 + 1, rfl, ?_⟩
  refine addUnakW (x := b) S3 (by omega) fun h4 S4 => ⟨0 + 1 + 1 + 1, rfl, ?_⟩
  have S4 : St (UnW u [(1, (a, false)), (3, (b, false))] 3 :: L) h4 := S4
  refine findUnakW S4 (by simp) (by omega) fun h5 s S5 => ⟨s.1, s.2.1, s.2.2, true, rfl, ?_⟩
  have S5 : St (Ow 1 s [.int .u64 1, .int .u64 3] :: UnW u [(1, (a, false)), (3, (b, false))] 3 :: L) h5 := S5
  refine findUnakW S5.p1 (by simp) (by omega) fun h6 t S6 => ⟨t.1, t.2.1, t.2.2, false, rfl, ?_⟩
  unfold bd
  have S7 := S6.tl.lit [.int .u64 1] T.uint64 1 rfl
  refine takeUnakW (L := Im 1 (some (top h6), 1, 1) [.int .u64 1] :: Ow 1 s [.int .u64 1, .int .u64 3] :: L) (s := (some (top h6), 1, 1)) (ts := [1]) S7.p1 (by simp) fun h8 o S8 => ⟨_, _, _, rfl, ?_⟩
  have S8 : St (Ow 2 o (hdc a) :: UnW u [(3, (b, false))] 3 :: Im 1 (some (top h6), 1, 1) [.int .u64 1] :: Ow 1 s [.int .u64 1, .int .u64 3] :: L) h8 := S8
  have l1 : s.2.1 = 2 := by have := S8.p3.ow.1; simp at this; omega
  have l2 : o.2.1 = 1 := by have := S8.ow.1; simp at this; omega
  refine ifT rfl (ifT rfl (ifT rfl (ifT (by rw [l1]; rfl) (ixV (n := 0) (w := .int .u64 1) S8.p3.sl rfl rfl fun p ep cp => ⟨1, cp, ifT rfl ?_⟩))))
  refine ixV (n := 1) (w := .int .u64 3) S8.p3.sl rfl rfl fun p2 ep2 cp2 => ⟨3, cp2, ifT rfl (ifT rfl (ifT rfl (ifT (by rw [l2]; rfl) ?_)))⟩
  refine ixS hdc2 (by decide) (xs := [a]) S8.sl rfl rfl ?_
  refine hldEqlS (a := a) (b := a) _ _ ⟨_, rfl, ifT (by simp) (lenUnakW S8.p1 fun h9 S9 => ⟨_, rfl, ?_⟩)⟩
  exact hK h9 S9.tl.tl.tl.tl
end
end Go.Proofs.Ytechpnlbkkfplaa.Pr
