/- layer 16: what the document fixes holds. -/
import Derived.Test.YtechpnlbkkfplaaDoorRoutD
import Derived.Test.YtechpnlbkkfplaaDoorPrLaw16Awake
set_option linter.unusedVariables false
set_option linter.unusedSimpArgs false
namespace Go.Proofs.YtechpnlbkkfplaaDoor.Pr
open Go Go.Lift Go.Proofs

abbrev nD : List UInt8 := [97, 109, 113, 46, 100, 105, 114, 101, 99, 116]
abbrev nF : List UInt8 := [97, 109, 113, 46, 102, 97, 110, 111, 117, 116]
abbrev nT : List UInt8 := [97, 109, 113, 46, 116, 111, 112, 105, 99]
theorem okB_lt {b : BN} (h0 : b.1.length < 1000) (h1 : b.2.1.length < 1000) (h2 : b.2.2.length < 1000) : okB b := by
  unfold okB maxLen; omega

section
variable {K : KT} {L : List Asr} {h : Heap}
theorem awake16S {h0 : Heap} (g : G h0) (m : Old h0 ∈ L) (S : St L h) (hK : ∀ h', St L h' → K (.bool true) h') : CallsH P F.waybilllaw16_awake [] K h := by
  refine waybilllaw16_awake.ok ?_
  unfold waybilllaw16_awake.p0
  have okb : okB (nT, [113], [97, 46, 35]) := okB_lt (by decide) (by decide) (by decide)
  have hT : (xget X0 nT).isSome = true := by decide +kernel
  refine newRt S fun h1 r S1 => ⟨_, rfl, ifF rfl ?_⟩
  refine bindRt (b := (nT, [113], [97, 46, 35])) S1 okb (fun e => ?_) fun _ _ _ h2 S2 => ⟨_, rfl, ?_⟩
  · exfalso
    rcases e with e | e | e
    · have e : xget X0 nT = none := e
      rw [e] at hT; cases hT
    · cases e
    · cases e
  refine bindRt (b := (nT, [113], [97, 46, 35])) S2 okb (fun _ h3 S3 => ⟨_, rfl, ?_⟩) fun _ _ e => absurd (List.mem_singleton.2 rfl) e
  have S3 : St (RtW r X0 [(nT, [113], [97, 46, 35])] :: L) h3 := S3
  refine getRt (n := nF) S3 fun h4 S4 => ⟨_, _, rfl, ?_⟩
  have eF : xget X0 nF = some (nF, 2, true) := by decide +kernel
  rw [eF]
  refine St.bd1 (cs := zx) S4 fun S5 => ⟨rfl, S5.wrA (ws := xc (nF, 2, true)) rfl (xc_one _) fun h6 S6 => ?_⟩
  refine ifT rfl (ifT rfl (ifT rfl ⟨_, S6.c 1 rfl, ifT rfl ⟨_, S6.c 2 rfl, ifT rfl ?_⟩⟩))
  have hk : ∀ b ∈ [((nT, [113], [97, 46, 35]) : BN)], b.2.2.length < 100000 := fun b hb => by rw [List.mem_singleton.1 hb]; decide
  refine routeRt (exch := []) (key := [107]) g m (by decide) hk (by decide) S6.tl fun h7 s S7 => ⟨_, _, _, rfl, ?_⟩
  have e1 : routeP X0 [(nT, [113], [97, 46, 35])] [] [107] = [[107]] := by decide +kernel
  rw [e1] at S7
  refine St.bd1 (cs := [.string (mkS [107])]) S7 fun S8 => ?_
  refine sameTextsS (a := s) (b := (some (top h7), 1, 1)) (xs := [[107]]) (ys := [[107]]) (by decide) S8.p1.sl ⟨rfl, S8.mem.1⟩ ⟨_, rfl, ifT (by decide) ?_⟩
  refine routeRt (exch := nT) (key := [97, 46, 98]) g (List.mem_cons_of_mem _ (List.mem_cons_of_mem _ m)) (by decide) hk (by decide) S8.p2 fun h9 s S9 => ⟨_, _, _, rfl, ?_⟩
  have e2 : routeP X0 [(nT, [113], [97, 46, 35])] nT [97, 46, 98] = [[113]] := by decide +kernel
  rw [e2] at S9
  refine St.bd1 (cs := [.string (mkS [113])]) S9 fun S10 => ?_
  refine sameTextsS (a := s) (b := (some (top h9), 1, 1)) (xs := [[113]]) (ys := [[113]]) (by decide) S10.p1.sl ⟨rfl, S10.mem.1⟩ ⟨_, rfl, ifT (by decide) ?_⟩
  refine namesRt S10.p2 (by decide) fun h11 s S11 => ⟨_, _, _, rfl, ?_⟩
  have el : s.2.1 = 4 := by have := S11.ow.1; simpa using this.symm
  rw [el]
  exact hK h11 (show St L h11 from S11.to)
end
end Go.Proofs.YtechpnlbkkfplaaDoor.Pr
