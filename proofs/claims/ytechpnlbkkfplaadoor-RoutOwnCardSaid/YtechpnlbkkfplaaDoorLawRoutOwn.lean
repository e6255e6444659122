/- RoutOwn: the broker's own exchanges are there from the beginning; the one without a name leads to the queue of the key, and takes no binding; for any texts. -/
import Derived.Test.YtechpnlbkkfplaaDoorAwake16
import Derived.Test.YtechpnlbkkfplaaDoorPrLaw16Routown
set_option linter.unusedVariables false
set_option linter.unusedSimpArgs false
namespace Go.Proofs.YtechpnlbkkfplaaDoor.Pr
open Go Go.Lift Go.Proofs

def ownB (n : List UInt8) : Bool := n == [] || (n == nD || (n == nF || n == nT))
theorem own_x (n : List UInt8) : (xget X0 n).isSome = ownB n ∧ (xO (xget X0 n))[2]? = some (.bool (ownB n)) := by
  by_cases h0 : n = []
  · subst h0; exact ⟨by decide +kernel, rfl⟩
  by_cases h1 : n = nD
  · subst h1; exact ⟨by decide +kernel, rfl⟩
  by_cases h2 : n = nF
  · subst h2; exact ⟨by decide +kernel, rfl⟩
  by_cases h3 : n = nT
  · subst h3; exact ⟨by decide +kernel, rfl⟩
  have e : ownB n = false := by
    unfold ownB
    rw [beq_eq_false_iff_ne.2 h0, beq_eq_false_iff_ne.2 h1, beq_eq_false_iff_ne.2 h2, beq_eq_false_iff_ne.2 h3]; rfl
  have ex : xget X0 n = none := by
    unfold xget
    rw [List.find?_eq_none]
    intro x hx
    simp only [List.mem_cons, List.not_mem_nil, or_false] at hx
    rcases hx with rfl | rfl | rfl | rfl
    · exact fun e => h0 (beq_iff_eq.1 e).symm
    · exact fun e => h1 (beq_iff_eq.1 e).symm
    · exact fun e => h2 (beq_iff_eq.1 e).symm
    · exact fun e => h3 (beq_iff_eq.1 e).symm
  rw [e, ex]
  exact ⟨rfl, rfl⟩

section
variable {K : KT} {L : List Asr} {h : Heap}
theorem ro_3 {h0 : Heap} (g : G h0) (m : Old h0 ∈ L) {r : Addr} {q k n : List UInt8} (hq : q.length ≤ 60) (hk : k.length ≤ 60) (hn : n.length ≤ 60) (S : St (RtW r X0 [] :: L) h) (hK : ∀ h', St L h' → K (.bool true) h') (b : Bool) (hb : b = ownB n) : waybilllaw16_RoutOwn.j3 K q k n (some r) b h := by
  subst hb
  obtain ⟨o1, o2⟩ := own_x n
  unfold waybilllaw16_RoutOwn.j3
  refine getRt (n := n) S fun h1 S1 => ⟨_, _, rfl, ?_⟩
  refine St.bd1 (cs := zx) S1 fun S2 => ⟨xO_len _, S2.wrA (ws := xO (xget X0 n)) (by rw [xO_len]; rfl) (xO_one _) fun h3 S3 => ?_⟩
  refine routeRt (L := Bx (top h1) (xO (xget X0 n)) :: L) (exch := []) (key := k) g (List.mem_cons_of_mem _ m) (by decide) (fun b hb => by cases hb) (by omega) S3.p1 fun h4 s S4 => ⟨_, _, _, rfl, ?_⟩
  have er : routeP X0 [] [] k = [k] := rfl
  rw [er] at S4
  refine ifT (by rw [o1]; exact beq_self_eq_true _) ⟨_, S4.p2.c 2 o2, ifT (beq_self_eq_true _) ?_⟩
  refine bindRt (b := ([], q, k)) S4.p1 (okB_lt (by show 0 < 1000; decide) (by show q.length < 1000; omega) (by show k.length < 1000; omega)) (fun _ h5 S5 => ⟨_, rfl, ifT rfl ?_⟩) fun _ e _ => absurd rfl e
  have el : s.2.1 = 1 := by have := S5.p1.ow.1; simpa using this.symm
  refine ifT (by rw [el]; rfl) ?_
  refine ixV (n := 0) (w := encS k) S5.p1.sl rfl rfl fun p ep cp => ⟨k, cp, ifT (beq_self_eq_true _) ?_⟩
  have next : ∀ X h', St (RtW r X [] :: Ow 1 s ([k].map encS) :: Bx (top h1) (xO (xget X0 n)) :: L) h' → ((((List.length n + List.length ([120] : List UInt8) : Nat) : Int) ≤ 9223372036854775807) ∧ CallsH P F.rout_Rout_Add [.pointer (some r), .agg #[.string (mkS (n ++ ([120] : List UInt8))), .int .i64 4, .bool false]] (fun v25 h26 => ∃ b27, v25 = .bool b27 ∧ ((!b27) = true → (((List.length n + List.length ([120] : List UInt8) : Nat) : Int) ≤ 9223372036854775807) ∧ CallsH P F.rout_Rout_Add [.pointer (some r), .agg #[.string (mkS (n ++ ([120] : List UInt8))), .int .i64 0, .bool false]] (fun v28 h29 => ∃ b30, v28 = .bool b30 ∧ ((!b30) = true → CallsH P F.waybilllaw16_awake [] (fun v31 h32 => ∃ b33, v31 = .bool b33 ∧ K (.bool b33) h32) h29) ∧ ((!b30) = false → K (.bool false) h29)) h26) ∧ ((!b27) = false → K (.bool false) h26)) h') := fun X h' S' => by
    have hx : ((n ++ [120] : List UInt8)).length ≤ maxLen := by simp [maxLen]; omega
    refine ⟨by simp; omega, addRt (x := (n ++ [120], 4, false)) S' hx (fun _ h6 S6 => ⟨_, rfl, ifT rfl ⟨by simp; omega, ?_⟩⟩) fun _ e => absurd e.2 (show ¬ (4 : Int) ≤ 3 by decide)⟩
    refine addRt (x := (n ++ [120], 0, false)) S6 hx (fun _ h7 S7 => ⟨_, rfl, ifT rfl ?_⟩) fun _ e => absurd e.1 (show ¬ (1 : Int) ≤ 0 by decide)
    exact awake16S g (List.mem_cons_of_mem _ (List.mem_cons_of_mem _ (List.mem_cons_of_mem _ m))) S7 fun h8 S8 => ⟨_, rfl, hK h8 S8.tl.tl.tl⟩
  refine addRt (x := (n, 1, false)) S5 (by show n.length ≤ maxLen; unfold maxLen; omega) (fun e h6 S6 => ⟨_, rfl, ifT ?_ (next _ h6 S6)⟩) fun e _ h6 S6 => ⟨_, rfl, ifT ?_ (next _ h6 S6)⟩
  · have : ownB n = true := by
      rw [← o1]
      rcases e with e | e | e
      · exact e
      · exact absurd e (show ¬ (1 : Int) < 1 by decide)
      · exact absurd e (show ¬ (3 : Int) < 1 by decide)
    rw [this]; rfl
  · have : ownB n = false := by
      rw [← o1]
      have e : xget X0 n = none := e
      rw [e]; rfl
    rw [this]; rfl

theorem RoutOwn.law {h : Heap} (q k n : List UInt8) (g : G h) : CallsH P F.waybilllaw16_RoutOwn [.string (mkS q), .string (mkS k), .string (mkS n)] (fun v h' => v = .bool true ∧ Kept h h') h := by
  refine waybilllaw16_RoutOwn.ok ?_
  unfold waybilllaw16_RoutOwn.p0
  have m : Old h ∈ [Old h] := List.mem_cons_self ..
  refine newRt (St.old h) fun h1 r S1 => ⟨_, rfl, ifF' rfl ?_⟩
  have jT : waybilllaw16_RoutOwn.j1 (fun v h' => v = .bool true ∧ Kept h h') q k n (some r) true h1 := by
    unfold waybilllaw16_RoutOwn.j1
    refine ifT rfl (ifT rfl (awake16S g (List.mem_cons_of_mem _ m) S1 fun h2 S2 => ⟨_, rfl, ?_⟩))
    unfold waybilllaw16_RoutOwn.j2
    exact ⟨rfl, S2.tl.keptOld m⟩
  by_cases hq : q.length ≤ 60
  · refine ifF' (by simp; omega) ?_
    by_cases hk : k.length ≤ 60
    · refine ifF' (by simp; omega) ?_
      by_cases hn : n.length ≤ 60
      · rw [decide_eq_false (by omega)]
        unfold waybilllaw16_RoutOwn.j1
        refine ifF rfl ?_
        have j3 : ∀ b, b = ownB n → waybilllaw16_RoutOwn.j3 (fun v h' => v = .bool true ∧ Kept h h') q k n (some r) b h1 := ro_3 g m hq hk hn S1 fun h2 S2 => ⟨rfl, S2.keptOld m⟩
        cases e0 : (n == []) with
        | true => exact ifT' rfl (j3 true (by unfold ownB; rw [e0]; rfl))
        | false =>
          refine ifF' rfl ?_
          cases e1 : (n == nD) with
          | true => exact ifT' rfl (j3 true (by unfold ownB; rw [e0, e1]; rfl))
          | false =>
            refine ifF' rfl ?_
            cases e2 : (n == nF) with
            | true => exact ifT' rfl (j3 true (by unfold ownB; rw [e0, e1, e2]; rfl))
            | false =>
              refine ifF' rfl ?_
              unfold bd
              exact j3 _ (by unfold ownB; rw [e0, e1, e2]; rfl)
      · rw [decide_eq_true (by omega)]
        exact jT
    · exact ifT' (by simp; omega) jT
  · exact ifT' (by simp; omega) jT
end
end Go.Proofs.YtechpnlbkkfplaaDoor.Pr
