/- line: what its functions do, on two maps. -/
import Derived.Test.YtechpnlbkkfplaaLiftIt
import Derived.Test.YtechpnlbkkfplaaKeysUint64
import Derived.Test.YtechpnlbkkfplaaPrLine
set_option linter.unusedVariables false
set_option linter.unusedSimpArgs false
namespace Go.Proofs.Ytechpnlbkkfplaa.Pr
open Go Go.Lift Go.Proofs

abbrev kkU : Int → Value := fun n => .int .u64 n
abbrev vvE : Int × Bool → Value := fun x => .agg #[.int .u64 x.1, .bool x.2]
abbrev vvI : Int → Value := fun n => .int .i64 n
abbrev LnA (l : Addr) (mr mh : Nat) (R : List (Int × (Int × Bool))) (H : List (Int × Int)) (L : List Asr) : List Asr := Bx l [.map (some mr), .map (some mh)] :: Mq kkU vvE mr R :: Mq kkU vvI mh H :: L
theorem klU : KeyL P T.uint64 kkU := KeyL.int (by kernel_rfl)
theorem umE : P.underlying T.map_uint64_api_Entry = some (.map T.uint64 T.api_Entry) := by kernel_rfl
theorem umI : P.underlying T.map_uint64_int = some (.map T.uint64 T.int) := by kernel_rfl
theorem zE : (P.info? T.api_Entry).bind (·.zero) = some (.agg #[.int .u64 0, .bool false]) := by kernel_rfl
theorem zI : (P.info? T.int).bind (·.zero) = some (.int .i64 0) := by kernel_rfl

section
variable {K : KT} {L : List Asr} {h : Heap} {l : Addr} {mr mh : Nat} {R : List (Int × (Int × Bool))} {H : List (Int × Int)}

theorem newLineS (S : St L h) (hK : ∀ h' l mr mh, St (LnA l mr mh [] [] L) h' → K (.pointer (some l)) h') : CallsH P F.line_New [] K h := by
  refine line_New.ok ?_
  unfold line_New.p0
  simp only [bd]
  have S1 := S.mqNew kkU vvE
  have S2 := S1.mqNew kkU vvI
  have S3 := S2.al [.map (some h.size), .map (some (h.push (.map #[] 0)).size)] T.line_Line
  exact hK _ _ _ _ S3.p2.p1

/-- What is held counts. -/
abbrev hv (H : List (Int × Int)) (id : Int) : Int := (get? H id).getD 0

theorem putLineS {id : Int} {again : Bool} (S : St (LnA l mr mh R H L) h) (hF : ((get? R id).isSome = true ∨ id = 0 ∨ 0 < hv H id) → ∀ h', St (LnA l mr mh R H L) h' → K (.bool false) h')
    (hT : (get? R id).isSome = false → id ≠ 0 → ¬ 0 < hv H id → ∀ h', St (LnA l mr mh (upd R id (id, again)) H L) h' → K (.bool true) h') : CallsH P F.line_Line_Put [.pointer (some l), .int .u64 id, .bool again] K h := by
  refine line_Line_Put.ok ?_
  unfold line_Line_Put.p0
  refine ⟨l, rfl, mr, S.c 0 rfl, ?_⟩
  have j1 : ∀ (b : Bool) (h' : Heap), (b = true → (get? R id).isSome = true ∨ id = 0 ∨ 0 < hv H id) → (b = false → (get? R id).isSome = false ∧ id ≠ 0 ∧ ¬ 0 < hv H id) → St (LnA l mr mh R H L) h' → line_Line_Put.j1 K (some l) id again b h' := by
    intro b h' h1 h2 S'
    unfold line_Line_Put.j1
    cases b with
    | true => exact ifT rfl (hF (h1 rfl) h' S')
    | false =>
      obtain ⟨a1, a2, a3⟩ := h2 rfl
      refine ifF rfl ⟨l, rfl, mr, S'.c 0 rfl, ?_⟩
      exact St.update (k := id) (v := (id, again)) klU umE S'.p1 fun u h3 S3 => hT a1 a2 a3 h3 S3.p1
  refine St.lookup (k := id) klU umE zE S.p1 ?_
  simp only [if_true, bd]
  have hz : ∃ cs : List Value, cs.length = 2 ∧ (∀ w ∈ cs, one w = true) ∧ (get? R id).elim (.agg #[.int .u64 0, .bool false]) vvE = .agg cs.toArray := by
    cases get? R id with
    | none => exact ⟨[.int .u64 0, .bool false], rfl, by simp [one], rfl⟩
    | some x => exact ⟨[.int .u64 x.1, .bool x.2], rfl, by simp [one], rfl⟩
  obtain ⟨cs, hc, ho, hz⟩ := hz
  rw [hz]
  refine ⟨cs, _, rfl, hc, ?_⟩
  have S1 : St (Bx (top h) [.int .u64 0, .bool false] :: LnA l mr mh R H L) (al h #[.int .u64 0, .bool false] T.api_Entry) := S.al [.int .u64 0, .bool false] T.api_Entry
  refine S1.wrA (by rw [hc]; rfl) ho fun h2 S2 => ?_
  have S3 := S2.tl
  cases hg : (get? R id).isSome with
  | true => exact ifT' rfl (j1 true h2 (fun _ => .inl hg) (fun e => by cases e) S3)
  | false =>
    refine ifF' rfl ?_
    by_cases h0 : id = 0
    · exact ifT' (by simp [h0]) (j1 true h2 (fun _ => .inr (.inl h0)) (fun e => by cases e) S3)
    · refine ifF' (by simp [h0]) ⟨l, rfl, mh, S3.c 1 rfl, ?_⟩
      refine St.lookup (k := id) klU umI zI S3.p2 ?_
      have e : (get? H id).elim (.int .i64 0) vvI = .int .i64 (hv H id) := by unfold hv; cases get? H id <;> rfl
      simp only [Bool.false_eq_true, if_false]
      rw [e]
      refine ⟨_, rfl, j1 _ h2 (fun e => .inr (.inr (of_decide_eq_true e))) (fun e => ⟨hg, h0, of_decide_eq_false e⟩) S3⟩

/-- What has been seen: the least of it. -/
structure LeI (R left : List (Int × (Int × Bool))) (least : Int) : Prop where
  seen : ∀ x ∈ R, x ∈ left ∨ (least ≠ 0 ∧ least ≤ x.1)
  is : least = 0 ∨ ∃ x ∈ R, x.1 = least

abbrev TkN (K : KT) (L : List Asr) (l : Addr) (mr mh : Nat) (R : List (Int × (Int × Bool))) (H : List (Int × Int)) : Prop := R = [] → ∀ h', St (LnA l mr mh R H L) h' → K (.tuple #[.agg #[.int .u64 0, .bool false], .bool false]) h'
abbrev TkS (K : KT) (L : List Asr) (l : Addr) (mr mh : Nat) (R : List (Int × (Int × Bool))) (H : List (Int × Int)) : Prop := ∀ k i b, (k, (i, b)) ∈ R → (∀ x ∈ R, k ≤ x.1) → ∀ h', St (LnA l mr mh (del R k) (upd H k 1) L) h' → K (.tuple #[.agg #[.int .u64 i, .bool b], .bool true]) h'

theorem take_j1 {t2 : Addr} {least : Int} (S : St (Bx t2 [.int .u64 0, .bool false] :: LnA l mr mh R H L) h) (I : LeI R [] least) (hR : ∀ x ∈ R, 0 < x.1) (hN : TkN K L l mr mh R H) (hS : TkS K L l mr mh R H) : line_Line_Take.j1 K (some l) t2 least h := by
  unfold line_Line_Take.j1
  refine ⟨l, rfl, mr, S.p1.c 0 rfl, ?_⟩
  refine St.lookup (k := least) klU umE zE S.p2 ?_
  simp only [if_true, bd]
  have j2 : ∀ (e : Addr) (i : Int) (b ok : Bool) (R' : List (Int × (Int × Bool))) (H' : List (Int × Int)) (h' : Heap), St (Bx e [.int .u64 i, .bool b] :: Bx t2 [.int .u64 0, .bool false] :: LnA l mr mh R' H' L) h' →
      (∀ h3, St (LnA l mr mh R' H' L) h3 → K (.tuple #[.agg #[.int .u64 i, .bool b], .bool ok]) h3) → line_Line_Take.j2 K t2 e ok h' := by
    intro e i b ok R' H' h' S' hk
    unfold line_Line_Take.j2
    refine S'.rdA (n := 2) rfl ⟨rfl, ?_⟩
    refine S'.p1.wrA (ws := [.int .u64 i, .bool b]) rfl (by simp [one]) fun h3 S3 => ?_
    exact S3.rdA (n := 2) rfl (hk h3 S3.tl.tl)
  have S1 : ∀ (w : List Value), St (Bx (top h) [.int .u64 0, .bool false] :: Bx t2 [.int .u64 0, .bool false] :: LnA l mr mh R H L) (al h #[.int .u64 0, .bool false] T.api_Entry) := fun _ => S.al [.int .u64 0, .bool false] T.api_Entry
  cases hg : get? R least with
  | none =>
    have hnil : R = [] := by
      cases hR2 : R with
      | nil => rfl
      | cons x t =>
        have hx : x ∈ R := by rw [hR2]; simp
        rcases I.seen x hx with h1 | h1
        · cases h1
        · rcases I.is with h2 | ⟨y, hy, he⟩
          · exact absurd h2 h1.1
          · exact absurd (List.mem_map.2 ⟨y, hy, he⟩) (get?_none.1 hg)
    refine ⟨[.int .u64 0, .bool false], false, rfl, rfl, ?_⟩
    refine (S1 []).wrA rfl (by simp [one]) fun h2 S2 => ?_
    exact ifF rfl (j2 (top h) 0 false false R H h2 S2 (hN hnil))
  | some v =>
    have hm := get?_mem hg
    refine ⟨[.int .u64 v.1, .bool v.2], true, rfl, rfl, ?_⟩
    refine (S1 []).wrA (ws := [.int .u64 v.1, .bool v.2]) rfl (by simp [one]) fun h2 S2 => ?_
    refine ifT rfl ⟨l, rfl, mr, S2.p2.c 0 rfl, ?_⟩
    refine St.delete (k := least) klU umE S2.p3 fun h3 S3 => ⟨l, rfl, mh, S3.p3.c 1 rfl, ?_⟩
    refine St.update (k := least) (v := 1) klU umI S3.p4 fun u h4 S4 => ?_
    refine j2 (top h) v.1 v.2 true (del R least) (upd H least 1) h4 ?_ (hS least v.1 v.2 hm fun x hx => ?_)
    · exact S4.to
    · rcases I.seen x hx with h1 | h1
      · cases h1
      · exact h1.2

theorem take_loop {t2 : Addr} {r : Nat} (hR : ∀ x ∈ R, 0 < x.1) (hN : TkN K L l mr mh R H) (hS : TkS K L l mr mh R H) :
    ∀ (fuel : Nat) (left : List (Int × (Int × Bool))) (cur : Option (Int × (Int × Bool))) (least : Int) (h : Heap), left.length < fuel → LeI R left least → St (ItA kkU vvE mr r R left cur :: Bx t2 [.int .u64 0, .bool false] :: Bx l [.map (some mr), .map (some mh)] :: Mq kkU vvI mh H :: L) h →
      line_Line_Take.L3 K fuel (some l) t2 least ⟨r, 0, none⟩ h
  | 0, _, _, _, _, hf, _, _ => absurd hf (Nat.not_lt_zero _)
  | fuel + 1, left, cur, least, h, hf, I, S => by
    unfold line_Line_Take.L3
    refine St.next S (fun hl => ?_) (fun h1 l1 k v l2 hl hm S1 => ?_)
    · subst hl
      exact ifF rfl (take_j1 (S.itEnd.p2.p2) I hR hN hS)
    · refine ifT rfl ?_
      refine St.entry S1 ⟨k, rfl, ?_⟩
      have hk : 0 < k := hR _ hm
      have go : ∀ least', (least' = k ∨ (least' = least ∧ least ≠ 0)) → least' ≤ k → (least ≠ 0 → least' ≤ least) → line_Line_Take.L3 K fuel (some l) t2 least' ⟨r, 0, none⟩ h1 := by
        intro least' h1' h2' h3'
        refine take_loop hR hN hS fuel (l1 ++ l2) _ least' h1 (by rw [hl] at hf; simp at hf ⊢; omega) ⟨fun x hx => ?_, ?_⟩ S1
        · rcases I.seen x hx with h4 | h4
          · rw [hl] at h4
            rcases List.mem_append.1 h4 with h5 | h5
            · exact .inl (List.mem_append.2 (.inl h5))
            · rcases List.mem_cons.1 h5 with h6 | h6
              · right; subst h6; exact ⟨by rcases h1' with e | e <;> omega, h2'⟩
              · exact .inl (List.mem_append.2 (.inr h6))
          · right
            have := h3' h4.1
            exact ⟨by rcases h1' with e | e <;> omega, by omega⟩
        · rcases h1' with e | e
          · exact .inr ⟨_, hm, e.symm⟩
          · rcases I.is with e2 | e2
            · exact absurd e2 e.2
            · rw [e.1]; exact .inr e2
      by_cases h0 : least = 0
      · refine ifT' (by simp [h0]) ?_
        unfold line_Line_Take.j4
        exact ifT rfl (go k (.inl rfl) (Int.le_refl _) (fun e => absurd h0 e))
      · refine ifF' (by simp [h0]) ?_
        unfold line_Line_Take.j4
        by_cases hlt : k < least
        · exact ifT (by simp [hlt]) (go k (.inl rfl) (Int.le_refl _) (fun _ => by omega))
        · exact ifF (by simp; omega) (go least (.inr ⟨rfl, h0⟩) (by omega) (fun _ => Int.le_refl _))

theorem takeLineS (S : St (LnA l mr mh R H L) h) (hR : ∀ x ∈ R, 0 < x.1) (hN : TkN K L l mr mh R H) (hS : TkS K L l mr mh R H) : CallsH P F.line_Line_Take [.pointer (some l)] K h := by
  refine line_Line_Take.ok ?_
  unfold line_Line_Take.p0
  simp only [bd]
  have S1 : St (Bx (top h) [.int .u64 0, .bool false] :: LnA l mr mh R H L) (al h #[.int .u64 0, .bool false] T.api_Entry) := S.al [.int .u64 0, .bool false] T.api_Entry
  refine ⟨l, rfl, mr, S1.p1.c 0 rfl, ?_⟩
  refine St.range umE S1.p2 fun h2 S2 => ⟨R.length + 1, ?_⟩
  exact take_loop hR hN hS _ R none 0 h2 (Nat.lt_succ_self _) ⟨fun x hx => .inl hx, .inl rfl⟩ S2

theorem hvE (id : Int) : (get? H id).elim (.int .i64 0) vvI = .int .i64 (hv H id) := by unfold hv; cases get? H id <;> rfl

theorem backLineS {id : Int} (S : St (LnA l mr mh R H L) h) (hF : hv H id = 0 → ∀ h', St (LnA l mr mh R H L) h' → K (.bool false) h')
    (hT : hv H id ≠ 0 → ∀ h', St (LnA l mr mh (upd R id (id, true)) (del H id) L) h' → K (.bool true) h') : CallsH P F.line_Line_Back [.pointer (some l), .int .u64 id] K h := by
  refine line_Line_Back.ok ?_
  unfold line_Line_Back.p0
  refine ⟨l, rfl, mh, S.c 1 rfl, ?_⟩
  refine St.lookup (k := id) klU umI zI S.p2 ?_
  simp only [Bool.false_eq_true, if_false]
  rw [hvE]
  refine ⟨_, rfl, ?_⟩
  by_cases h0 : hv H id = 0
  · exact ifT (by simp [h0]) (hF h0 h S)
  · refine ifF (by simp [h0]) ⟨l, rfl, mh, S.c 1 rfl, ?_⟩
    refine St.delete (k := id) klU umI S.p2 fun h1 S1 => ⟨l, rfl, mr, S1.p1.c 0 rfl, ?_⟩
    exact St.update (k := id) (v := (id, true)) klU umE S1.p2 fun u h2 S2 => hT h0 h2 (S2.to)

theorem dropLineS {id : Int} (S : St (LnA l mr mh R H L) h) (hK : ∀ h', St (LnA l mr mh (del R id) (del H id) L) h' → K (.bool ((get? R id).isSome || decide (0 < hv H id))) h') :
    CallsH P F.line_Line_Drop [.pointer (some l), .int .u64 id] K h := by
  refine line_Line_Drop.ok ?_
  unfold line_Line_Drop.p0
  refine ⟨l, rfl, mr, S.c 0 rfl, ?_⟩
  have j1 : ∀ (b : Bool) (h' : Heap), b = ((get? R id).isSome || decide (0 < hv H id)) → St (LnA l mr mh R H L) h' → line_Line_Drop.j1 K (some l) id b h' := by
    intro b h' e S'
    subst e
    unfold line_Line_Drop.j1
    refine ⟨l, rfl, mr, S'.c 0 rfl, ?_⟩
    refine St.delete (k := id) klU umE S'.p1 fun h1 S1 => ⟨l, rfl, mh, S1.p1.c 1 rfl, ?_⟩
    exact St.delete (k := id) klU umI S1.p2 fun h2 S2 => hK h2 S2.to
  refine St.lookup (k := id) klU umE zE S.p1 ?_
  simp only [if_true, bd]
  have hz : ∃ cs : List Value, cs.length = 2 ∧ (∀ w ∈ cs, one w = true) ∧ (get? R id).elim (.agg #[.int .u64 0, .bool false]) vvE = .agg cs.toArray := by
    cases get? R id with
    | none => exact ⟨[.int .u64 0, .bool false], rfl, by simp [one], rfl⟩
    | some x => exact ⟨[.int .u64 x.1, .bool x.2], rfl, by simp [one], rfl⟩
  obtain ⟨cs, hc, ho, hz⟩ := hz
  rw [hz]
  refine ⟨cs, _, rfl, hc, ?_⟩
  have S1 : St (Bx (top h) [.int .u64 0, .bool false] :: LnA l mr mh R H L) (al h #[.int .u64 0, .bool false] T.api_Entry) := S.al [.int .u64 0, .bool false] T.api_Entry
  refine S1.wrA (by rw [hc]; rfl) ho fun h2 S2 => ?_
  have S3 := S2.tl
  cases hg : (get? R id).isSome with
  | true => exact ifT' rfl (j1 true h2 (by rw [hg]; rfl) S3)
  | false =>
    refine ifF' rfl ⟨l, rfl, mh, S3.c 1 rfl, ?_⟩
    refine St.lookup (k := id) klU umI zI S3.p2 ?_
    simp only [Bool.false_eq_true, if_false]
    rw [hvE]
    exact ⟨_, rfl, j1 _ h2 (by rw [hg]; rfl) S3⟩

/-- What is held, rising. -/
theorem heldLineS (S : St (LnA l mr mh R H L) h) (hw : ∀ x ∈ H, 0 ≤ x.1 ∧ x.1 < 18446744073709551616) (hl : H.length ≤ 8796093022208)
    (hK : ∀ h' s (ks : List Int), ks.Perm (H.map Prod.fst) → ks.Pairwise (· ≤ ·) → St (Ow 1 s (ks.map kkU) :: LnA l mr mh R H L) h' → K (.slice s.1 s.2.1 s.2.2) h') : CallsH P F.line_Line_Held [.pointer (some l)] K h := by
  refine line_Line_Held.ok ?_
  unfold line_Line_Held.p0
  refine ⟨l, rfl, mh, S.c 1 rfl, ?_⟩
  refine keys.sortedKeys_map_uint64_int_uint64_int (vv := vvI) S.p2 (fun k hk => ?_) hl 0 fun h' s ks p q S' => ⟨_, _, _, rfl, ?_⟩
  · obtain ⟨x, hx, rfl⟩ := List.mem_map.1 hk
    have := hw x hx
    exact keyOf_i (by kernel_rfl) (by
      have e1 : IntKind.u64.min = 0 := by decide
      have e2 : IntKind.u64.max = 18446744073709551615 := by decide
      simp [Lit.wf, e1, e2]; omega)
  · exact hK h' s ks p (q.imp fun h => by simpa [Lift.Ord.le, sort_uint64.o] using h) S'.to
end
end Go.Proofs.Ytechpnlbkkfplaa.Pr
