/- line: what is ready, told. -/
import Derived.Test.YtechpnlbkkfplaaLineS
set_option linter.unusedVariables false
set_option linter.unusedSimpArgs false
namespace Go.Proofs.Ytechpnlbkkfplaa.Pr
open Go Go.Lift Go.Proofs

theorem sl_entry : SlT P T.sl_api_Entry T.api_Entry 2 16 [.int .u64 0, .bool false] := slT (by kernel_rfl) (by kernel_rfl)
theorem u_sle : P.underlying T.sl_api_Entry = some (.slice T.api_Entry) := by kernel_rfl
theorem bld_entry' : (fun a b : Value => Instr.fill (Lift.places P (P.underlying T.sl_api_Entry)) (zrow (zcl P T.api_Entry).toList 1 (P.cellsOf T.api_Entry)).toArray [(0, .agg (List.toArray [a, b]))]) = fun a b => some (List.toArray [a, b]) := by kernel_rfl
theorem bld_entry (a b : Value) : bldS P T.sl_api_Entry T.api_Entry 1 [(0, .agg (List.toArray [a, b]))] [a, b] := congrFun (congrFun bld_entry' a) b

abbrev ecell (x : Int × Bool) : List Value := [.int .u64 x.1, .bool x.2]
def entO (R : List (Int × (Int × Bool))) (k : Int) : Int × Bool := (get? R k).getD (0, false)

section
variable {K : KT} {L : List Asr} {h : Heap} {l : Addr} {mr mh : Nat} {R : List (Int × (Int × Bool))} {H : List (Int × Int)}

theorem entE (k : Int) : (get? R k).elim (.agg #[.int .u64 0, .bool false]) vvE = .agg (List.toArray (ecell (entO R k))) := by unfold entO; cases get? R k <;> rfl

theorem ready_loop {s : SV} {ks : List Int} (hk : ks.length < 4398046511104) (hK : ∀ h' o, St (Ow 2 o ((ks.map (entO R)).flatMap ecell) :: Ow 1 s (ks.map kkU) :: LnA l mr mh R H L) h' → K (.slice o.1 o.2.1 o.2.2) h') :
    ∀ (fuel i : Nat) (o : SV) (h : Heap), ks.length - i < fuel → i ≤ ks.length → o.2.1 = i → St (Ow 2 o (((ks.take i).map (entO R)).flatMap ecell) :: Ow 1 s (ks.map kkU) :: LnA l mr mh R H L) h → line_Line_Ready.L1 K fuel (some l) o.1 o.2.1 o.2.2 s.1 s.2.1 s.2.2 ((s.2.1 : Nat) : Int) i h
  | 0, _, _, _, hf, _, _, _ => absurd hf (Nat.not_lt_zero _)
  | fuel + 1, i, o, h, hf, hi, ho, S => by
    have el : s.2.1 = ks.length := by have := S.p1.ow.1; simp at this; omega
    unfold line_Line_Ready.L1
    by_cases hlt : i < ks.length
    · refine ifT (by simp; omega) (ixV (n := i) (w := .int .u64 ks[i]) S.p1.sl rfl (by simp [hlt]) fun p ep cp => ⟨ks[i], cp, l, rfl, mr, S.p2.c 0 rfl, ?_⟩)
      refine St.lookup (k := ks[i]) klU umE zE S.p3 ?_
      simp only [Bool.false_eq_true, if_false, bd]
      rw [entE]
      refine ⟨_, rfl, _, bld_entry _ _, ?_⟩
      have S1 : St (Bx (top h) (ecell (entO R ks[i])) :: Ow 2 o (((ks.take i).map (entO R)).flatMap ecell) :: Ow 1 s (ks.map kkU) :: LnA l mr mh R H L) (al h (ecell (entO R ks[i])).toArray T.api_Entry) := S.al _ _
      have sa : Sl 2 (al h (ecell (entO R ks[i])).toArray T.api_Entry) (some (top h)) 1 (ecell (entO R ks[i])) := ⟨rfl, S1.mem.1⟩
      refine S1.p1.app sl_entry rfl u_sle (fun k e => by cases e) (Src.slice (n := 1) (c := 1) sa (by simp [one])) (by omega) (by omega) fun p' c' h' S' => ⟨_, _, _, rfl, ?_⟩
      have S2 : St (Ow 2 (p', o.2.1 + 1, c') (((ks.take i).map (entO R)).flatMap ecell ++ ecell (entO R ks[i])) :: Ow 1 s (ks.map kkU) :: LnA l mr mh R H L) h' := S'.d1
      rw [show ((ks.take i).map (entO R)).flatMap ecell ++ ecell (entO R ks[i]) = ((ks.take (i + 1)).map (entO R)).flatMap ecell by
        have e : ks.take (i + 1) = ks.take i ++ [ks[i]] := by rw [List.take_add_one, List.getElem?_eq_getElem hlt]; rfl
        rw [e, List.map_append, List.flatMap_append]; simp] at S2
      rw [show IntKind.i64.wrap ((i : Int) + 1) = ((i + 1 : Nat) : Int) by rw [wrapI (by omega) (by omega)]; omega]
      exact ready_loop hk hK fuel (i + 1) (p', o.2.1 + 1, c') h' (by omega) (by omega) (by simp [ho]) S2
    · refine ifF (by simp; omega) (hK h o ?_)
      rw [List.take_of_length_le (by omega)] at S
      exact S

/-- What is ready, rising. -/
theorem readyLineS (S : St (LnA l mr mh R H L) h) (hw : ∀ x ∈ R, 0 ≤ x.1 ∧ x.1 < 18446744073709551616) (hl : R.length < 4398046511104)
    (hK : ∀ h' o (ks : List Int), ks.Perm (R.map Prod.fst) → ks.Pairwise (· ≤ ·) → St (Ow 2 o ((ks.map (entO R)).flatMap ecell) :: LnA l mr mh R H L) h' → K (.slice o.1 o.2.1 o.2.2) h') : CallsH P F.line_Line_Ready [.pointer (some l)] K h := by
  refine line_Line_Ready.ok ?_
  unfold line_Line_Ready.p0
  refine ⟨l, rfl, mr, S.c 0 rfl, ?_⟩
  refine keys.sortedKeys_map_uint64_api_Entry_uint64_api_Entry (vv := vvE) S.p1 (fun k hk => ?_) (by omega) 0 fun h' s ks p q S' => ⟨_, _, _, rfl, ?_⟩
  · obtain ⟨x, hx, rfl⟩ := List.mem_map.1 hk
    have := hw x hx
    exact keyOf_i (by kernel_rfl) (by
      have e1 : IntKind.u64.min = 0 := by decide
      have e2 : IntKind.u64.max = 18446744073709551615 := by decide
      simp [Lit.wf, e1, e2]; omega)
  · have S2 : St (Ow 1 s (ks.map kkU) :: LnA l mr mh R H L) h' := S'.p2.p1
    exact ⟨_, ready_loop (by rw [p.length_eq, List.length_map]; exact hl) (fun h2 o S3 => hK h2 o ks p (q.imp fun h => by simpa [Lift.Ord.le, sort_uint64.o] using h) S3.d1) _ 0 (none, 0, 0) h' (Nat.lt_succ_self _) (Nat.zero_le _) rfl (S2.owNil 2)⟩
end
end Go.Proofs.Ytechpnlbkkfplaa.Pr
