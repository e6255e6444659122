/- rout: exchanges and bindings made, added, told. -/
import Derived.Test.YtechpnlbkkfplaaDoorRoutS
set_option linter.unusedVariables false
set_option linter.unusedSimpArgs false
namespace Go.Proofs.YtechpnlbkkfplaaDoor.Pr
open Go Go.Lift Go.Proofs

abbrev X0 : List XN := [([], 1, true), ([97, 109, 113, 46, 100, 105, 114, 101, 99, 116], 1, true), ([97, 109, 113, 46, 102, 97, 110, 111, 117, 116], 2, true), ([97, 109, 113, 46, 116, 111, 112, 105, 99], 3, true)]
def xO (o : Option XN) : List Value := o.elim zx xc
theorem xO_len (o : Option XN) : (xO o).length = 3 := by cases o <;> rfl
theorem xO_one (o : Option XN) : ∀ w ∈ xO o, one w = true := by cases o <;> simp [xO, one]

section
variable {K : KT} {L R : List Asr} {h : Heap} {r : Addr} {X : List XN} {B : List BN}

theorem lookX (S : St L h) {mx : Nat} {kx : List (List UInt8 × XN)} [Has (Mq encS vvX mx) L kx R] {n : List UInt8} {F' : List Value → Bool → Heap → Prop} (hK : F' (xO (get? kx n)) (get? kx n).isSome h) :
    SemH P (Instr.lookup T.map_string_api_Exch (.map (some mx)) (.string (mkS n)) true) (fun v h' => ∃ cs b, v = .tuple #[.agg (List.toArray cs), .bool b] ∧ F' cs b h') h := by
  refine St.lookup (k := n) klS umX zX (S.get (Mq encS vvX mx)) ?_
  simp only [if_true]
  have e : (get? kx n).elim (.agg #[.string (mkS []), .int .i64 0, .bool false]) vvX = .agg (List.toArray (xO (get? kx n))) := by cases get? kx n <;> rfl
  rw [e]
  exact ⟨_, _, rfl, hK⟩
/-- A box is written, and is not wanted any more. -/
theorem finX {L0 : List Asr} (S : St L0 h) {a : Addr} {old ws : List Value} [Has (Bx a) L0 old R] [HL : Lift.Sub L R] {Q : Heap → Prop} (hl : ws.length = old.length) (ho : ∀ w ∈ ws, one w = true) (hK : ∀ h', St L h' → Q h') :
    ∃ h', stC h a 0 ws = some h' ∧ Q h' :=
  (S.get (Bx a)).wrA hl ho fun h' S' => hK h' (by
    obtain ⟨D, hD⟩ := HL.ex
    exact St.left (L := L) (D := D) (S'.tl.perm hD))

set_option maxHeartbeats 2000000 in
theorem addRt {x : XN} (S : St (RtW r X B :: L) h) (hl : x.1.length ≤ maxLen) (hF : ((xget X x.1).isSome = true ∨ x.2.1 < 1 ∨ 3 < x.2.1) → ∀ h', St (RtW r X B :: L) h' → K (.bool false) h')
    (hT : xget X x.1 = none → 1 ≤ x.2.1 ∧ x.2.1 ≤ 3 → ∀ h', St (RtW r (insX X x) B :: L) h' → K (.bool true) h') : CallsH P F.rout_Rout_Add [.pointer (some r), .agg (List.toArray (xc x))] K h := by
  obtain ⟨mx, mb, kx, kb, q, S0⟩ := RtW.out S
  refine rout_Rout_Add.ok ?_
  unfold rout_Rout_Add.p0
  refine St.bd1 (cs := xc x) S0 fun S => ⟨r, rfl, ?_⟩
  generalize al h (List.toArray (xc x)) T.api_Exch = h1 at *
  generalize top h = t0 at *
  have eg := q.xg x.1
  have j2 : ∀ (b : Bool) h', (b = true → (xget X x.1).isSome = true ∨ x.2.1 < 1 ∨ 3 < x.2.1) → (b = false → xget X x.1 = none ∧ 1 ≤ x.2.1 ∧ x.2.1 ≤ 3) → St (Bx t0 (xc x) :: RtA r mx mb kx kb L) h' → rout_Rout_Add.j2 K (some r) t0 b h' := fun b h' b1 b2 S' => by
    unfold rout_Rout_Add.j2
    cases b with
    | true => exact ifT rfl (hF (b1 rfl) h' (RtW.inn q S'.tl))
    | false =>
      obtain ⟨c1, c2⟩ := b2 rfl
      refine ifF rfl ⟨r, rfl, some mx, S'.p1.c 0 rfl, _, S'.c 0 rfl, S'.rdA (n := 3) rfl ?_⟩
      exact St.update (k := x.1) (v := x) klS umX S'.p2 fun u h3 S3 => hT c1 c2 h3 (RtW.inn (q.addX c1 hl) (S3.p1.tl.p1))
  have fin : ∀ h', St (Bx t0 (xc x) :: RtA r mx mb kx kb L) h' → rout_Rout_Add.j1 K (some r) t0 (get? kx x.1).isSome h' := fun h' S' => by
    unfold rout_Rout_Add.j1
    rw [eg]
    cases hx : xget X x.1 with
    | some y => exact ⟨fun e => (by cases e), fun _ => j2 true h' (fun _ => .inl (by rw [hx]; rfl)) (fun e => by cases e) S'⟩
    | none =>
      refine ⟨fun _ => ⟨_, S'.c 1 rfl, ?_⟩, fun e => by cases e⟩
      by_cases h1 : x.2.1 < 1
      · exact ⟨fun e => absurd e (by simp [h1]), fun _ => j2 true h' (fun _ => .inr (.inl h1)) (fun e => by cases e) S'⟩
      · refine ⟨fun _ => ⟨_, S'.c 1 rfl, ?_⟩, fun e => absurd e (by simp [h1])⟩
        exact j2 _ h' (fun e => .inr (.inr (by simpa using e))) (fun e => ⟨hx, by omega, by simpa using e⟩) S'
  repeat' first
    | with_reducible refine And.intro ?_ ?_
    | with_reducible refine St.bd1 S fun S => ?_
    | with_reducible refine ⟨_, S.rc r 0 rfl, ?_⟩
    | with_reducible refine ⟨_, S.rc t0 0 rfl, ?_⟩
    | with_reducible refine lookX S ?_
    | with_reducible exact xO_len _
    | with_reducible refine finX S ?_ (xO_one _) fin
    | exact xO_len _

theorem slE : SlT P T.sl_api_Exch T.api_Exch 3 32 zx := slT (by kernel_rfl) (by kernel_rfl)
theorem new_loop {t : SV} {Y : List XN} (hl : Y.length ≤ 1000) (hK : ∀ h' r' , r' = r → St (RtW r ((Y.map fun x => (x.1, x.2.1, true)).foldl insX X) B :: L) h' → K (.pointer (some r)) h')
    (ok : ∀ i x, Y[i]? = some x → x.1.length ≤ maxLen ∧ xget (((Y.take i).map fun x => (x.1, x.2.1, true)).foldl insX X) x.1 = none ∧ 1 ≤ x.2.1 ∧ x.2.1 ≤ 3) :
    ∀ (fuel i : Nat) (h : Heap), Y.length - i < fuel → i ≤ Y.length → St (Ow 3 t (Y.flatMap xc) :: RtW r (((Y.take i).map fun x => (x.1, x.2.1, true)).foldl insX X) B :: L) h → rout_New.L1 K fuel (some r) t.1 t.2.1 t.2.2 ((t.2.1 : Nat) : Int) i h
  | 0, _, _, hf, _, _ => absurd hf (Nat.not_lt_zero _)
  | fuel + 1, i, h, hf, hi, S => by
    have el : t.2.1 = Y.length := by have := S.ow.1; rw [flat_length xc3] at this; omega
    unfold rout_New.L1
    by_cases hlt : i < Y.length
    · have hx : Y[i]? = some Y[i] := List.getElem?_eq_getElem hlt
      obtain ⟨o1, o2, o3⟩ := ok i _ hx
      refine ifT (by simp; omega) (ixS xc3 (by decide) S.sl rfl hx ?_)
      have S1 : St (Bx (top h) zx :: Ow 3 t (Y.flatMap xc) :: RtW r (((Y.take i).map fun x => (x.1, x.2.1, true)).foldl insX X) B :: L) (al h zx.toArray T.api_Exch) := S.al zx T.api_Exch
      refine ⟨rfl, S1.wrA (ws := xc Y[i]) rfl (xc_one _) fun h2 S2 => S2.put1 (top h) 2 (by simp) rfl fun h3 S3 => ?_⟩
      have S3 : St (Bx (top h) (xc (Y[i].1, Y[i].2.1, true)) :: Ow 3 t (Y.flatMap xc) :: RtW r (((Y.take i).map fun x => (x.1, x.2.1, true)).foldl insX X) B :: L) h3 := S3
      refine S3.rdA (n := 3) rfl (addRt (x := (Y[i].1, Y[i].2.1, true)) S3.p2 o1 (fun e => ?_) fun _ _ h4 S4 => ⟨_, rfl, ?_⟩)
      · exfalso
        rcases e with e | e | e
        · rw [o2] at e; cases e
        · exact absurd o3.1 (by show ¬ 1 ≤ Y[i].2.1; have : Y[i].2.1 < 1 := e; omega)
        · exact absurd o3.2 (by show ¬ Y[i].2.1 ≤ 3; have : 3 < Y[i].2.1 := e; omega)
      · rw [show IntKind.i64.wrap ((i : Int) + 1) = ((i + 1 : Nat) : Int) from by rw [wrapI (by omega) (by omega)]; omega]
        refine new_loop hl hK ok fuel (i + 1) h4 (by omega) (by omega) ?_
        have et : Y.take (i + 1) = Y.take i ++ [Y[i]] := by rw [List.take_add_one, hx]; rfl
        rw [et, List.map_append, List.foldl_append]
        exact S4.p1.tl.p1
    · refine ifF (by simp; omega) (hK h r rfl ?_)
      rw [List.take_of_length_le (by omega)] at S
      exact S.tl

abbrev Y0 : List XN := [([], 1, false), ([97, 109, 113, 46, 100, 105, 114, 101, 99, 116], 1, false), ([97, 109, 113, 46, 102, 97, 110, 111, 117, 116], 2, false), ([97, 109, 113, 46, 116, 111, 112, 105, 99], 3, false)]
theorem newRt (S : St L h) (hK : ∀ h' r, St (RtW r X0 [] :: L) h' → K (.pointer (some r)) h') : CallsH P F.rout_New [] K h := by
  refine rout_New.ok ?_
  unfold rout_New.p0
  have S1 := S.mqNew encS vvX
  have S2 := S1.mqNew kkB vvO
  simp only [bd]
  have S3 := S2.al [.map (some h.size), .map (some (h.push (.map #[] 0)).size)] T.rout_Rout
  generalize al ((h.push (.map #[] 0)).push (.map #[] 0)) (List.toArray [.map (some h.size), .map (some (h.push (.map #[] 0)).size)]) T.rout_Rout = h3 at *
  generalize top ((h.push (.map #[] 0)).push (.map #[] 0)) = r at *
  have S4 : St (RtW r [] [] :: L) h3 := RtW.inn RRel.nil S3.p2.p1
  refine ⟨Y0.flatMap xc, by show Instr.fill (Lift.places P (P.underlying T.sl_api_Exch)) (zrow (zcl P T.api_Exch).toList 4 (P.cellsOf T.api_Exch)).toArray _ = some _; kernel_rfl, 5, ?_⟩
  have S5 := S4.al (Y0.flatMap xc) T.api_Exch
  have S6 := S5.bxOw (n := 4) (sz := 3) rfl
  refine new_loop (X := []) (B := []) (t := (some (top h3), 4, 4)) (Y := Y0) (by decide) (fun h' r' _ S' => hK h' r ?_) (fun i x hx => ?_) 5 0 _ (by decide) (Nat.zero_le _) S6
  · have e : (Y0.map fun x => (x.1, x.2.1, true)).foldl insX [] = X0 := by decide +kernel
    rw [e] at S'
    exact S'
  · match i, hx with
    | 0, hx => cases hx; exact ⟨by decide, by decide +kernel, by decide, by decide⟩
    | 1, hx => cases hx; exact ⟨by decide, by decide +kernel, by decide, by decide⟩
    | 2, hx => cases hx; exact ⟨by decide, by decide +kernel, by decide, by decide⟩
    | 3, hx => cases hx; exact ⟨by decide, by decide +kernel, by decide, by decide⟩

theorem getRt {n : List UInt8} (S : St (RtW r X B :: L) h) (hK : ∀ h', St (RtW r X B :: L) h' → K (.tuple #[.agg (List.toArray (xO (xget X n))), .bool (xget X n).isSome]) h') : CallsH P F.rout_Rout_Get [.pointer (some r), .string (mkS n)] K h := by
  obtain ⟨mx, mb, kx, kb, q, S0⟩ := RtW.out S
  refine rout_Rout_Get.ok ?_
  unfold rout_Rout_Get.p0
  have eg := q.xg n
  refine St.bd1 (cs := zx) S0 fun S1 => ⟨r, rfl, some mx, S1.p1.c 0 rfl, lookX S1 ?_⟩
  rw [eg]
  refine St.bd1 (cs := zx) S1 fun S2 => ⟨xO_len _, S2.wrA (by rw [xO_len]; rfl) (xO_one _) fun h3 S3 => S3.rdA (n := 3) (xO_len _) ⟨xO_len _, ?_⟩⟩
  exact S3.p1.wrA (by rw [xO_len]; rfl) (xO_one _) fun h4 S4 => S4.rdA (n := 3) (xO_len _) (hK h4 (RtW.inn q S4.tl.tl))

set_option maxHeartbeats 2000000 in
theorem bindRt {b : BN} (S : St (RtW r X B :: L) h) (hl : okB b) (hF : (xget X b.1 = none ∨ b.1 = [] ∨ b ∈ B) → ∀ h', St (RtW r X B :: L) h' → K (.bool false) h')
    (hT : (xget X b.1).isSome = true → b.1 ≠ [] → b ∉ B → ∀ h', St (RtW r X (insB B b) :: L) h' → K (.bool true) h') : CallsH P F.rout_Rout_Bind [.pointer (some r), .agg (List.toArray (bc b))] K h := by
  obtain ⟨mx, mb, kx, kb, q, S0⟩ := RtW.out S
  refine rout_Rout_Bind.ok ?_
  unfold rout_Rout_Bind.p0
  refine St.bd1 (cs := bc b) S0 fun S => ⟨r, rfl, ?_⟩
  generalize al h (List.toArray (bc b)) T.api_Bind = h1 at *
  generalize top h = t0 at *
  have eg := q.xg b.1
  have fin : ∀ h', St (Bx t0 (bc b) :: RtA r mx mb kx kb L) h' → rout_Rout_Bind.j1 K (some r) t0 (get? kx b.1).isSome h' := fun h' S' => by
    unfold rout_Rout_Bind.j1
    have jT : (xget X b.1 = none ∨ b.1 = [] ∨ b ∈ B) → rout_Rout_Bind.j2 K (some r) t0 true h' := fun e => by
      unfold rout_Rout_Bind.j2
      exact ifT rfl (hF e h' (RtW.inn q S'.tl))
    rw [eg]
    cases hx : xget X b.1 with
    | none => exact ⟨fun e => (by cases e), fun _ => jT (.inl hx)⟩
    | some y =>
      refine ⟨fun _ => ⟨_, S'.c 0 rfl, ?_⟩, fun e => by cases e⟩
      by_cases he : b.1 = []
      · exact ⟨fun e => absurd e (by simp [he]), fun _ => jT (.inr (.inl he))⟩
      · refine ⟨fun _ => ⟨r, rfl, some mb, S'.p1.c 1 rfl, S'.rdA (n := 3) rfl ?_⟩, fun e => absurd e (by simp [he])⟩
        refine St.lookup (k := b) klB umB zI S'.p3 ?_
        simp only [Bool.false_eq_true, if_false]
        rw [q.bg b]
        by_cases hm : b ∈ B
        · rw [if_pos hm]
          exact ⟨1, rfl, jT (.inr (.inr hm))⟩
        · rw [if_neg hm]
          refine ⟨0, rfl, ?_⟩
          unfold rout_Rout_Bind.j2
          refine ifF rfl ⟨r, rfl, some mb, S'.p1.c 1 rfl, S'.rdA (n := 3) rfl ?_⟩
          exact St.update (k := b) (v := (1 : Int)) klB umB S'.p3 fun u h3 S3 => hT (by rw [hx]; rfl) he hm h3 (RtW.inn (q.addB hm hl) S3.p1.tl.p2.p2)
  repeat' first
    | with_reducible refine And.intro ?_ ?_
    | with_reducible refine St.bd1 S fun S => ?_
    | with_reducible refine ⟨_, S.rc r 0 rfl, ?_⟩
    | with_reducible refine ⟨_, S.rc t0 0 rfl, ?_⟩
    | with_reducible refine lookX S ?_
    | with_reducible exact xO_len _
    | with_reducible refine finX S ?_ (xO_one _) fin
    | exact xO_len _

theorem bindsRt (S : St (RtW r X B :: L) h) (hl : B.length ≤ 1000000) (hK : ∀ h' s, St (Ow 3 s (B.flatMap bc) :: RtW r X B :: L) h' → K (.slice s.1 s.2.1 s.2.2) h') : CallsH P F.rout_Rout_Binds [.pointer (some r)] K h := by
  obtain ⟨mx, mb, kx, kb, q, S0⟩ := RtW.out S
  refine rout_Rout_Binds.ok ?_
  unfold rout_Rout_Binds.p0
  have hp := q.permB
  have hlen : kb.length = B.length := by have := hp.length_eq; simpa using this
  refine ⟨r, rfl, some mb, S0.c 1 rfl, ?_⟩
  refine keys.sortedKeys_bnd (vv := vvO) S0.p2 (fun k hk => q.okb k (hp.mem_iff.1 hk)) (by omega) fun h' s ks p so S' => ⟨_, _, _, rfl, ?_⟩
  have nb : B.Nodup := by have := q.ub.nodup; rwa [List.map_id] at this
  have e : ks = B := (Ord.ups_of_le sort_bind.le_anti so ((p.trans hp).nodup_iff.2 nb)).ext q.ub fun x => (p.trans hp).mem_iff
  rw [e] at S'
  exact hK h' s (RtW.inn q (show St (RtA r mx mb kx kb (Ow 3 s (B.flatMap bc) :: L)) h' from S'.to)).p1

theorem namesRt (S : St (RtW r X B :: L) h) (hl : X.length ≤ 1000000) (hK : ∀ h' s, St (Ow 1 s ((X.map Prod.fst).map encS) :: RtW r X B :: L) h' → K (.slice s.1 s.2.1 s.2.2) h') : CallsH P F.rout_Rout_Names [.pointer (some r)] K h := by
  obtain ⟨mx, mb, kx, kb, q, S0⟩ := RtW.out S
  refine rout_Rout_Names.ok ?_
  unfold rout_Rout_Names.p0
  have hp := q.permX
  have hlen : kx.length = X.length := by have := hp.length_eq; simpa using this
  refine ⟨r, rfl, some mx, S0.c 0 rfl, ?_⟩
  refine keys.sortedKeys_map_string_api_Exch_string_api_Exch (vv := vvX) S0.p1 (fun k hk => ?_) (by omega) [] fun h' s ks p so S' => ⟨_, _, _, rfl, ?_⟩
  · obtain ⟨x, hx, rfl⟩ := List.mem_map.1 (hp.mem_iff.1 hk)
    exact keyOf_s str_und (q.okx x hx)
  · have ux : Ord.Ups sort_string.o id (X.map Prod.fst) := by
      rw [Ord.Ups, List.pairwise_map]
      exact q.ux
    have nx := q.ux.nodup
    have e : ks = X.map Prod.fst := (Ord.ups_of_le sort_string.le_anti so ((p.trans hp).nodup_iff.2 nx)).ext ux fun x => (p.trans hp).mem_iff
    rw [e] at S'
    exact hK h' s (RtW.inn q (show St (RtA r mx mb kx kb (Ow 1 s ((X.map Prod.fst).map encS) :: L)) h' from S'.to)).p1
end
end Go.Proofs.YtechpnlbkkfplaaDoor.Pr
