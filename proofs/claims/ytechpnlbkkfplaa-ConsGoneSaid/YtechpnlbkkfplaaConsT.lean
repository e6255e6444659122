/- cons: a turn, where what is asked is written down; consumers compared. -/
import Derived.Test.YtechpnlbkkfplaaConsR
import Derived.Test.YtechpnlbkkfplaaPrLaw19Same
set_option linter.unusedVariables false
set_option linter.unusedSimpArgs false
namespace Go.Proofs.Ytechpnlbkkfplaa.Pr
open Go Go.Lift Go.Proofs

section
variable {K : KT} {L : List Asr} {h : Heap} {s : Addr} {C : List CN} {last : Int}
/-- .. as long as B may be turned. -/
abbrev TellsK {σ : Type} (B : σ → Asr) (nx : σ → CN → σ) (d : CN → Bool) (f : Value) (ok : σ → Prop) : Prop := ∀ (x : CN) (st : σ) (N : List Asr) (h : Heap) (K : KT), ok st → St (B st :: N) h → (∀ h', St (B (nx st x) :: N) h' → K (.bool (d x)) h') → CallV P f [.agg (List.toArray (cc x))] K h

theorem turn_loopK {σ : Type} {B : σ → Asr} {nx : σ → CN → σ} {d : CN → Bool} {ok : σ → Prop} {fn : Fn} {fa fb : Array Value} (hd : TellsK B nx d (.func fn fa fb) ok) {st : σ} {t : SV} {t6 : Addr} {Q : List CN} (hok : ∀ i, ok ((Q.take i).foldl nx st)) (hl : Q.length < 1099511627776) (h0 : 0 ≤ last ∧ last < 4611686018427387904)
    (hN : (∀ x ∈ Q, d x = false) → ∀ h', St (B (Q.foldl nx st) :: CnW s C last :: L) h' → K (.tuple #[.agg (List.toArray zc), .bool false]) h')
    (hT : ∀ (i : Nat) (x : CN), Q[i]? = some x → d x = true → (∀ y ∈ Q.take i, d y = false) → ∀ h', St (B ((Q.take (i + 1)).foldl nx st) :: CnW s (outC C (keyC x) ++ [x]) (last + 1) :: L) h' → K (.tuple #[.agg (List.toArray (cc x)), .bool true]) h') :
    ∀ (fuel i : Nat) (h : Heap), Q.length - i < fuel → i ≤ Q.length → (∀ y ∈ Q.take i, d y = false) → St (B ((Q.take i).foldl nx st) :: Ow 5 t (Q.flatMap cc) :: Bx t6 zc :: CnW s C last :: L) h → cons_Cons_Turn.L2 K fuel (some s) (.func fn fa fb) t6 t.1 t.2.1 t.2.2 ((t.2.1 : Nat) : Int) i h
  | 0, _, _, hf, _, _, _ => absurd hf (Nat.not_lt_zero _)
  | fuel + 1, i, h, hf, hi, hno, S => by
    have el : t.2.1 = Q.length := by have := S.p1.ow.1; rw [cc_len] at this; omega
    unfold cons_Cons_Turn.L2
    by_cases hlt : i < Q.length
    · have hx : Q[i]? = some Q[i] := List.getElem?_eq_getElem hlt
      refine ifT (by simp; omega) (ixS cc5 (by decide) S.p1.sl rfl hx ?_)
      unfold bd
      have S1 : St (Bx (top h) zc :: B ((Q.take i).foldl nx st) :: Ow 5 t (Q.flatMap cc) :: Bx t6 zc :: CnW s C last :: L) (al h zc.toArray T.api_Con) := S.al zc T.api_Con
      refine ⟨rfl, S1.wrA (ws := cc Q[i]) rfl (cc_one _) fun h2 S2 => ?_⟩
      refine funcNilS fun_con ⟨_, rfl, ifF' rfl (S2.rdA (n := 5) rfl ?_)⟩
      refine hd _ _ _ _ _ (hok i) S2.p1 fun h3 S3 => ⟨_, rfl, ?_⟩
      have et : Q.take (i + 1) = Q.take i ++ [Q[i]] := by rw [List.take_add_one, hx]; rfl
      have ef : nx ((Q.take i).foldl nx st) Q[i] = (Q.take (i + 1)).foldl nx st := by rw [et, List.foldl_append]; rfl
      rw [ef] at S3
      unfold cons_Cons_Turn.j3
      cases hb : d Q[i] with
      | true =>
        refine ifT rfl (S3.p1.rdA (n := 5) rfl ?_)
        refine keyConS S3 fun h4 S4 => ⟨wc (keyC Q[i]), rfl, ?_⟩
        refine dropConW (w := keyC Q[i]) S4.p4 fun h5 S5 => ⟨_, rfl, S5.p2.rdA (n := 5) rfl ?_⟩
        have hn : keyC Q[i] ∉ (outC C (keyC Q[i])).map keyC := fun hm => by
          obtain ⟨y, hy, e⟩ := List.mem_map.1 hm
          exact absurd e (of_decide_eq_true (List.mem_filter.1 hy).2)
        refine addConW (c := Q[i]) S5 h0 (fun hm => absurd hm hn) fun _ h6 S6 => ⟨_, rfl, S6.p2.rdA (n := 5) rfl ⟨rfl, ?_⟩⟩
        refine S6.p4.wrA (ws := cc Q[i]) rfl (cc_one _) fun h7 S7 => S7.rdA (n := 5) rfl ?_
        exact hT i _ hx hb hno h7 S7.p2.d1.p2.tl.p2.tl
      | false =>
        refine ifF rfl ?_
        rw [show IntKind.i64.wrap ((i : Int) + 1) = ((i + 1 : Nat) : Int) from wrapS (by omega) (by omega)]
        refine turn_loopK hd hok hl h0 hN hT fuel (i + 1) h3 (by omega) (by omega) (fun y hy => ?_) S3.p1.tl
        rw [et] at hy
        rcases List.mem_append.1 hy with hy | hy
        · exact hno y hy
        · simp at hy; subst hy; exact hb
    · refine ifF (by simp; omega) ?_
      unfold cons_Cons_Turn.j1
      rw [List.take_of_length_le (by omega)] at hno S
      refine ⟨rfl, S.p2.wrA (ws := zc) rfl (by simp [one]) fun h2 S2 => S2.rdA (n := 5) rfl (hN hno h2 S2.tl.p1.tl)⟩

theorem turnConK {σ : Type} {B : σ → Asr} {nx : σ → CN → σ} {d : CN → Bool} {ok : σ → Prop} {fn : Fn} {fa fb : Array Value} (hd : TellsK B nx d (.func fn fa fb) ok) {st : σ} {q : List UInt8} (hok : ∀ i, ok (((ofC C q).take i).foldl nx st)) (S : St (B st :: CnW s C last :: L) h) (hl : C.length < 1099511627776) (h0 : 0 ≤ last ∧ last < 4611686018427387904)
    (hN : (∀ x ∈ ofC C q, d x = false) → ∀ h', St (B ((ofC C q).foldl nx st) :: CnW s C last :: L) h' → K (.tuple #[.agg (List.toArray zc), .bool false]) h')
    (hT : ∀ (i : Nat) (x : CN), (ofC C q)[i]? = some x → d x = true → (∀ y ∈ (ofC C q).take i, d y = false) → ∀ h', St (B (((ofC C q).take (i + 1)).foldl nx st) :: CnW s (outC C (keyC x) ++ [x]) (last + 1) :: L) h' → K (.tuple #[.agg (List.toArray (cc x)), .bool true]) h') :
    CallsH P F.cons_Cons_Turn [.pointer (some s), .string (mkS q), .func fn fa fb] K h := by
  refine cons_Cons_Turn.ok ?_
  unfold cons_Cons_Turn.p0
  unfold bd
  have S1 : St (Bx (top h) zc :: B st :: CnW s C last :: L) (al h zc.toArray T.api_Con) := S.al zc T.api_Con
  have hlen : (C.filter fun c => quC c == q).length ≤ C.length := List.length_filter_le _ _
  refine ofConW (q := q) (L := Bx (top h) zc :: B st :: L) S1.p2 hl (by omega) fun h2 t S2 => ⟨_, _, _, rfl, (ofC C q).length + 1, ?_⟩
  refine turn_loopK (Q := ofC C q) hd hok (Nat.lt_of_le_of_lt hlen hl) h0 hN hT _ 0 h2 (Nat.lt_succ_self _) (Nat.zero_le _) (by simp) ?_
  exact S2.p3.p3.p2.p2
end

/-! ### Consumers compared -/
theorem con_fields : P.fieldsOf T.api_Con = #[⟨"Conn", T.int, 0, false, "", "", 0⟩, ⟨"Chan", T.int, 1, false, "", "", 8⟩, ⟨"Tag", T.string, 2, false, "", "", 16⟩, ⟨"Queue", T.string, 3, false, "", "", 32⟩, ⟨"NoAck", T.bool, 4, false, "", "", 48⟩] := by kernel_rfl
theorem con_guard : P.eqGuardType P.depth T.api_Con = false := by kernel_rfl
theorem con_und : P.underlying T.api_Con = some (.struct (P.fieldsOf T.api_Con)) := by kernel_rfl
theorem con_held : P.stoodInHeld T.api_Con = false := by kernel_rfl
theorem cu_bool : P.underlying T.bool = some .bool := by kernel_rfl
theorem conFields (a b : CN) (w : World) : (Op.eqFields 9999 (List.toArray (cc a)) (List.toArray (cc b)) (P.fieldsOf T.api_Con).toList).run P w = .ok (decide (a = b)) w := by
  have p0 : ∀ (z : CN) (w : World), (part T.int (List.toArray (cc z)) 0).run P w = .ok (.int .i64 z.1) w := fun z w => run_part_scalar (by kernel_rfl) rfl
  have p1 : ∀ (z : CN) (w : World), (part T.int (List.toArray (cc z)) 1).run P w = .ok (.int .i64 z.2.1) w := fun z w => run_part_scalar (by kernel_rfl) rfl
  have p2 : ∀ (z : CN) (w : World), (part T.string (List.toArray (cc z)) 2).run P w = .ok (.string (mkS z.2.2.1)) w := fun z w => run_part_scalar (by kernel_rfl) rfl
  have p3 : ∀ (z : CN) (w : World), (part T.string (List.toArray (cc z)) 3).run P w = .ok (.string (mkS z.2.2.2.1)) w := fun z w => run_part_scalar (by kernel_rfl) rfl
  have p4 : ∀ (z : CN) (w : World), (part T.bool (List.toArray (cc z)) 4).run P w = .ok (.bool z.2.2.2.2) w := fun z w => run_part_scalar (by kernel_rfl) rfl
  have i0 := run_equalIn_int (P := P) w 9998 T.int .i64 .i64 a.1 b.1 cu_int
  have i1 := run_equalIn_int (P := P) w 9998 T.int .i64 .i64 a.2.1 b.2.1 cu_int
  have i2 := run_equalIn_string (P := P) w 9998 T.string (mkS a.2.2.1) (mkS b.2.2.1) cu_str
  have i3 := run_equalIn_string (P := P) w 9998 T.string (mkS a.2.2.2.1) (mkS b.2.2.2.1) cu_str
  have i4 := run_equalIn_bool (P := P) w 9998 T.bool a.2.2.2.2 b.2.2.2.2 cu_bool
  rw [con_fields]
  have s0 := fun fs => eqFields_step' (w := w) (f := ⟨"Conn", T.int, 0, false, "", "", 0⟩) (fs := fs) (by decide) (p0 a w) (p0 b w) i0
  have s1 := fun fs => eqFields_step' (w := w) (f := ⟨"Chan", T.int, 1, false, "", "", 8⟩) (fs := fs) (by decide) (p1 a w) (p1 b w) i1
  have s2 := fun fs => eqFields_step' (w := w) (f := ⟨"Tag", T.string, 2, false, "", "", 16⟩) (fs := fs) (by decide) (p2 a w) (p2 b w) i2
  have s3 := fun fs => eqFields_step' (w := w) (f := ⟨"Queue", T.string, 3, false, "", "", 32⟩) (fs := fs) (by decide) (p3 a w) (p3 b w) i3
  have s4 := fun fs => eqFields_step' (w := w) (f := ⟨"NoAck", T.bool, 4, false, "", "", 48⟩) (fs := fs) (by decide) (p4 a w) (p4 b w) i4
  have s9 : (Op.eqFields 9999 (List.toArray (cc a)) (List.toArray (cc b)) []).run P w = .ok true w := by simp [Op.eqFields]
  show (Op.eqFields 9999 _ _ [⟨"Conn", T.int, 0, false, "", "", 0⟩, ⟨"Chan", T.int, 1, false, "", "", 8⟩, ⟨"Tag", T.string, 2, false, "", "", 16⟩, ⟨"Queue", T.string, 3, false, "", "", 32⟩, ⟨"NoAck", T.bool, 4, false, "", "", 48⟩]).run P w = _
  rw [s0, s1, s2, s3, s4, s9]
  obtain ⟨a0, a1, a2, a3, a4⟩ := a
  obtain ⟨b0, b1, b2, b3, b4⟩ := b
  by_cases h0 : a0 = b0 <;> by_cases h1 : a1 = b1 <;> by_cases h2 : a2 = b2 <;> by_cases h3 : a3 = b3 <;> by_cases h4 : a4 = b4 <;> simp [ByteArray.toList_eq, mkS, h0, h1, h2, h3, h4]
section
variable {K : KT} {h : Heap}
theorem conNeqS {a b : CN} (x y : Operand) (hK : K (.bool (decide (a ≠ b))) h) : SemH P (eqS .neq T.api_Con x y (.agg (List.toArray (cc a))) (.agg (List.toArray (cc b)))) K h := by
  intro w hw
  refine ⟨.bool (decide (a ≠ b)), w, ?_, by rw [hw]; exact hK, Rest.refl w⟩
  simp only [eqS, Sem.run_bind, run_eqGuard_agg _ _ _ _ _ _ _ con_guard, Result.andThen_ok, run_neq_struct, run_equalIn_agg _ _ _ _ _ con_und con_held]
  rw [conFields]
  simp
theorem same19S {a b : SV} {xs : List CN} (hx : xs.length < 1000000) (ha : Sl 5 h a.1 a.2.1 (xs.flatMap cc)) (hb : Sl 5 h b.1 b.2.1 (xs.flatMap cc)) (hK : K (.bool true) h) : CallsH P F.waybilllaw19_same [.slice a.1 a.2.1 a.2.2, .slice b.1 b.2.1 b.2.2] K h := by
  have ea : a.2.1 = xs.length := by have := ha.1; rw [cc_len] at this; omega
  have eb : b.2.1 = xs.length := by have := hb.1; rw [cc_len] at this; omega
  refine waybilllaw19_same.ok ?_
  unfold waybilllaw19_same.p0
  have go : ∀ (fuel i : Nat), xs.length - i < fuel → i ≤ xs.length → waybilllaw19_same.L1 K fuel a.1 a.2.1 a.2.2 b.1 b.2.1 b.2.2 i h := by
    intro fuel
    induction fuel with
    | zero => intro i hf; omega
    | succ fuel ih =>
      intro i hf hi
      unfold waybilllaw19_same.L1
      by_cases hlt : i < xs.length
      · have hx : xs[i]? = some xs[i] := List.getElem?_eq_getElem hlt
        refine ifT (by simp; omega) ?_
        obtain ⟨p, ep, p0, p1, cs, rd, e⟩ := ixS cc5 (by decide) ha (i := (i : Int)) rfl hx (R := fun cs => cs = cc xs[i]) rfl
        obtain ⟨p', ep', p0', p1', cs', rd', e'⟩ := ixS cc5 (by decide) hb (i := (i : Int)) rfl hx (R := fun cs => cs = cc xs[i]) rfl
        subst e
        subst e'
        refine ⟨p, ep, p0, p1, p', ep', p0', p1', _, rd, _, rd', conNeqS (a := xs[i]) (b := xs[i]) _ _ ⟨_, rfl, ifF (by simp) ?_⟩⟩
        unfold bd
        rw [show IntKind.i64.wrap ((i : Int) + 1) = ((i + 1 : Nat) : Int) from wrapS (by omega) (by omega)]
        exact ih (i + 1) (by omega) (by omega)
      · exact ifF (by simp; omega) hK
  exact ifF (by rw [ea, eb]; exact bne_self_eq_false _) ⟨xs.length + 1, go _ 0 (by omega) (by omega)⟩
end
end Go.Proofs.Ytechpnlbkkfplaa.Pr
