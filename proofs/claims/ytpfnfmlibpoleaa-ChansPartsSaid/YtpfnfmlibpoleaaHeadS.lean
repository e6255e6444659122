/- Heads of contents: what the document writes; that two are the same; and that what is written is read. -/
import Derived.Test.YtpfnfmlibpoleaaContS
import Derived.Test.YtpfnfmlibpoleaaRefT
import Derived.Laws.StructEq
set_option linter.unusedVariables false
set_option linter.unusedSimpArgs false
namespace Go.Proofs.Ytpfnfmlibpoleaa.Pr
open Go Go.Lift Go.Proofs

theorem head_fields : P.fieldsOf T.api_Head = #[⟨"Size", T.uint64, 0, false, "", "", 0⟩, ⟨"Mode", T.int, 1, false, "", "", 8⟩, ⟨"Type", T.string, 2, false, "", "", 16⟩] := by kernel_rfl
theorem head_guard : P.eqGuardType P.depth T.api_Head = false := by kernel_rfl
theorem head_und : P.underlying T.api_Head = some (.struct (P.fieldsOf T.api_Head)) := by kernel_rfl
theorem head_held : P.stoodInHeld T.api_Head = false := by kernel_rfl
theorem u_int : P.underlying T.int = some (.int .i64) := by kernel_rfl
theorem u_u64 : P.underlying T.uint64 = some (.int .u64) := by kernel_rfl
theorem eqFields_step {d : Nat} {xs ys : Array Value} {f : Field} {fs : List Field} {u v : Value} {c : Bool} {w : World} (hn : f.name ≠ "_") (h1 : (part f.type xs f.offset).run P w = .ok u w) (h2 : (part f.type ys f.offset).run P w = .ok v w)
    (h3 : (Op.equalIn d f.type u v).run P w = .ok c w) : (Op.eqFields d xs ys (f :: fs)).run P w = if c = true then (Op.eqFields d xs ys fs).run P w else .ok false w := by
  conv => lhs; unfold Op.eqFields
  rw [if_pos hn, Sem.run_bind, h1, Result.andThen_ok, Sem.run_bind, h2, Result.andThen_ok, Sem.run_bind, h3, Result.andThen_ok]
  cases c <;> simp
theorem headEqS {K : KT} {h : Heap} {a b : PH} (x y : Operand) (hK : K (.bool (decide (a ≠ b))) h) : SemH P (eqS .neq T.api_Head x y (.agg (List.toArray (hcells a))) (.agg (List.toArray (hcells b)))) K h := by
  intro w hw
  refine ⟨.bool (decide (a ≠ b)), w, ?_, by rw [hw]; exact hK, Rest.refl w⟩
  have p0 : ∀ (z : PH) (w : World), (part T.uint64 (List.toArray (hcells z)) 0).run P w = .ok (.int .u64 (z.1 : Int)) w := fun z w => run_part_scalar (by kernel_rfl) rfl
  have p1 : ∀ (z : PH) (w : World), (part T.int (List.toArray (hcells z)) 1).run P w = .ok (.int .i64 z.2.1) w := fun z w => run_part_scalar (by kernel_rfl) rfl
  have p2 : ∀ (z : PH) (w : World), (part T.string (List.toArray (hcells z)) 2).run P w = .ok (.string (mkS z.2.2)) w := fun z w => run_part_scalar (by kernel_rfl) rfl
  have e : (Op.eqFields 9999 (List.toArray (hcells a)) (List.toArray (hcells b)) (P.fieldsOf T.api_Head).toList).run P w = .ok (decide (a = b)) w := by
    have i0 := run_equalIn_int (P := P) w 9998 T.uint64 .u64 .u64 (a.1 : Int) (b.1 : Int) u_u64
    have i1 := run_equalIn_int (P := P) w 9998 T.int .i64 .i64 a.2.1 b.2.1 u_int
    have i2 := run_equalIn_string (P := P) w 9998 T.string (mkS a.2.2) (mkS b.2.2) u_str
    rw [head_fields]
    have s0 := fun fs => eqFields_step (w := w) (f := ⟨"Size", T.uint64, 0, false, "", "", 0⟩) (fs := fs) (by decide) (p0 a w) (p0 b w) i0
    have s1 := fun fs => eqFields_step (w := w) (f := ⟨"Mode", T.int, 1, false, "", "", 8⟩) (fs := fs) (by decide) (p1 a w) (p1 b w) i1
    have s2 := fun fs => eqFields_step (w := w) (f := ⟨"Type", T.string, 2, false, "", "", 16⟩) (fs := fs) (by decide) (p2 a w) (p2 b w) i2
    have s3 : (Op.eqFields 9999 (List.toArray (hcells a)) (List.toArray (hcells b)) []).run P w = .ok true w := by simp [Op.eqFields]
    show (Op.eqFields 9999 _ _ [⟨"Size", T.uint64, 0, false, "", "", 0⟩, ⟨"Mode", T.int, 1, false, "", "", 8⟩, ⟨"Type", T.string, 2, false, "", "", 16⟩]).run P w = _
    rw [s0, s1, s2, s3]
    obtain ⟨a0, a1, a2⟩ := a
    obtain ⟨b0, b1, b2⟩ := b
    simp only [Prod.mk.injEq, beq_iff_eq]
    have em : ((mkS a2).toList = (mkS b2).toList) ↔ a2 = b2 := by simp [mkS, ByteArray.toList_eq]
    by_cases h0 : a0 = b0
    · by_cases h1 : a1 = b1
      · by_cases h2 : a2 = b2
        · simp [h0, h1, h2]
        · simp [h0, h1, h2, em]
      · simp [h0, h1]
    · have : ¬ (a0 : Int) = (b0 : Int) := by omega
      simp [h0, this]
  simp only [eqS, Sem.run_bind, run_eqGuard_agg _ _ _ _ _ _ _ head_guard, Result.andThen_ok, run_neq_struct, run_equalIn_agg _ _ _ _ _ head_und head_held]
  rw [e]
  simp

def headFl (x : PH) : Nat := (if x.2.2 = [] then 0 else 32768) + (if x.2.1 = 0 then 0 else 4096)
def headT (x : PH) : Oct := if x.2.2 = [] then [] else octsN 1 x.2.2.length ++ x.2.2
def headM (x : PH) : Oct := if x.2.1 = 0 then [] else octsN 1 (nat64 x.2.1)
/-- A head's octets. -/
def headW (x : PH) : Oct := octsN 2 60 ++ octsN 2 0 ++ octsN 8 x.1 ++ octsN 2 (headFl x) ++ headT x ++ headM x

section
variable {K : KT} {L R : List Asr} {h : Heap}
theorem rheadS {t : SV} {bs : Oct} {x : PH} (S : St L h) [mt : In (fun b => Im 1 t (u8s b)) L bs] (hb : bs.length < 1073741824) (ht : x.2.2.length < 1073741824)
    (hK : ∀ p l c h', St (Ow 1 (p, l, c) (u8s (bs ++ headW x)) :: L) h' → K (.slice p l c) h') : CallsH P F.waybillref1_Head [.slice t.1 t.2.1 t.2.2, .agg (List.toArray (hcells x))] K h := by
  refine waybillref1_Head.ok ?_
  unfold waybillref1_Head.p0
  simp only [bd]
  have S1 := S.al (hcells x) T.api_Head
  generalize al h (hcells x).toArray T.api_Head = h1 at *
  generalize top h = m at *
  unfold headW at hK
  have j4 : ∀ (p : OA) (l c : Nat) (out : Oct) (h' : Heap), out.length < 1099511627776 → out ++ headM x = bs ++ (octsN 2 60 ++ octsN 2 0 ++ octsN 8 x.1 ++ octsN 2 (headFl x) ++ headT x ++ headM x) → St (Ow 1 (p, l, c) (u8s out) :: Bx m (hcells x) :: L) h' → waybillref1_Head.j4 K p l c m h' := by
    intro p l c out h' hl he S'
    rw [← he] at hK
    unfold waybillref1_Head.j4
    unfold headM at hK
    simp only [rdN (S'.rc m 1 rfl), wrap_nat64]
    by_cases h0 : x.2.1 = 0
    · rw [if_pos h0, List.append_nil] at hK
      exact ifF (by simp [h0]) (hK p l c h' S'.d1)
    · rw [if_neg h0] at hK
      exact ifT (by simp [h0]) (rputS (s := (p, l, c)) (n := 1) S' S'.sl hl (by omega) fun p2 l2 c2 h2 S2 => ⟨_, _, _, rfl, hK p2 l2 c2 h2 S2.d1.d1⟩)
  have j3 : ∀ (p : OA) (l c : Nat) (h' : Heap), St (Ow 1 (p, l, c) (u8s (bs ++ octsN 2 60 ++ octsN 2 0 ++ octsN 8 x.1)) :: Bx m (hcells x) :: L) h' → waybillref1_Head.j3 K p l c m (headFl x) h' := by
    intro p l c h' S'
    unfold waybillref1_Head.j3
    refine rputS (s := (p, l, c)) (n := 2) S' S'.sl (by simp [octsN_length]; omega) (by omega) fun p2 l2 c2 h2 S2 => ⟨_, _, _, rfl, ?_⟩
    simp only [rdT (S2.rc m 2 rfl)]
    by_cases h0 : x.2.2 = []
    · refine ifF (by rw [strB]; simp [h0]) (j4 p2 l2 c2 _ h2 (by simp [octsN_length]; omega) ?_ S2.d1)
      have : headT x = [] := by unfold headT; rw [if_pos h0]
      rw [this]; simp only [List.append_assoc, List.append_nil]
    · refine ifT (by rw [strB]; simp [h0]) (rrshortS (s := (p2, l2, c2)) S2 S2.sl (by simp [octsN_length]; omega) (by omega) fun p3 l3 c3 h3 S3 => ⟨_, _, _, rfl, j4 p3 l3 c3 _ h3 (by simp [octsN_length]; omega) ?_ S3.d1.d1⟩)
      have : headT x = octsN 1 x.2.2.length ++ x.2.2 := by unfold headT; rw [if_neg h0]
      rw [this]; simp only [List.append_assoc]
  have j1 : ∀ (p : OA) (l c : Nat) (h' : Heap), St (Ow 1 (p, l, c) (u8s (bs ++ octsN 2 60 ++ octsN 2 0 ++ octsN 8 x.1)) :: Bx m (hcells x) :: L) h' → waybillref1_Head.j1 K p l c m h' := by
    intro p l c h' S'
    have j3' := j3 p l c h' S'
    unfold headFl at j3'
    unfold waybillref1_Head.j1 waybillref1_Head.j2
    simp only [rdT (S'.rc m 2 rfl), rdN (S'.rc m 1 rfl), bd]
    by_cases h0 : x.2.2 = []
    · rw [if_pos h0] at j3'
      refine ifF (by rw [strB]; simp [h0]) ?_
      by_cases h1 : x.2.1 = 0
      · rw [if_pos h1] at j3'
        exact ifF (by simp [h1]) j3'
      · rw [if_neg h1] at j3'
        exact ifT (by simp [h1]) j3'
    · rw [if_neg h0] at j3'
      refine ifT (by rw [strB]; simp [h0]) ?_
      by_cases h1 : x.2.1 = 0
      · rw [if_pos h1] at j3'
        exact ifF (by simp [h1]) j3'
      · rw [if_neg h1] at j3'
        exact ifT (by simp [h1]) j3'
  have a1 : ∀ (K' : KT), (∀ p l c h', St (Ow 1 (p, l, c) (u8s (bs ++ octsN 2 60)) :: Bx m (hcells x) :: L) h' → K' (.slice p l c) h') → CallsH P F.waybillref1_Put [.slice t.1 t.2.1 t.2.2, .int .i64 2, .int .u64 60] K' h1 :=
    fun K' hK' => rputS (s := t) (n := 2) (v := 60) S1 (isl8 S1 (s := t) (bs := bs)).1 (by omega) (by omega) hK'
  have a2 : ∀ (K' : KT) (p : OA) (l c : Nat) (h' : Heap), St (Ow 1 (p, l, c) (u8s (bs ++ octsN 2 60)) :: Bx m (hcells x) :: L) h' → (∀ p l c h', St (Ow 1 (p, l, c) (u8s (bs ++ octsN 2 60 ++ octsN 2 0)) :: Bx m (hcells x) :: L) h' → K' (.slice p l c) h') → CallsH P F.waybillref1_Put [.slice p l c, .int .i64 2, .int .u64 0] K' h' :=
    fun K' p l c h' S' hK' => rputS (s := (p, l, c)) (n := 2) (v := 0) S' S'.sl (by simp [octsN_length]; omega) (by omega) fun p2 l2 c2 h2 S2 => hK' p2 l2 c2 h2 S2.d1
  have a3 : ∀ (p : OA) (l c : Nat) (h' : Heap), St (Ow 1 (p, l, c) (u8s (bs ++ octsN 2 60 ++ octsN 2 0)) :: Bx m (hcells x) :: L) h' → CallsH P F.waybillref1_Put [.slice p l c, .int .i64 8, .int .u64 (x.1 : Int)] (fun v h => ∃ p l c, v = .slice p l c ∧ waybillref1_Head.j1 K p l c m h) h' :=
    fun p l c h' S' => rputS (s := (p, l, c)) (n := 8) S' S'.sl (by simp [octsN_length]; omega) (by omega) fun p2 l2 c2 h2 S2 => ⟨_, _, _, rfl, j1 p2 l2 c2 h2 S2.d1⟩
  simp only [rdN (S1.rc m 0 rfl)]
  refine ⟨a1 _ fun p l c h2 S2 => ⟨_, _, _, rfl, a2 _ p l c h2 S2 fun p l c h3 S3 => ⟨_, _, _, rfl, ?_⟩, ?_⟩, a1 _ fun p l c h2 S2 => ⟨_, _, _, rfl, a2 _ p l c h2 S2 fun p l c h3 S3 => ⟨_, _, _, rfl, a3 p l c h3 S3⟩⟩⟩
  · simp only [rdN (S3.rc m 0 rfl)]
    exact a3 p l c h3 S3
  · simp only [rdN (S2.rc m 0 rfl)]
    exact a2 _ p l c h2 S2 fun p l c h3 S3 => ⟨_, _, _, rfl, a3 p l c h3 S3⟩
end
end Go.Proofs.Ytpfnfmlibpoleaa.Pr
