/- The document's consumers: one row. -/
import Derived.Test.YtechpnlbkkfplaaLiftD
import Derived.Test.YtechpnlbkkfplaaConsQ
import Derived.Test.YtechpnlbkkfplaaPrRef16
import Derived.Test.YtechpnlbkkfplaaPrRef16Cons
set_option linter.unusedVariables false
set_option linter.unusedSimpArgs false
namespace Go.Proofs.Ytechpnlbkkfplaa.Pr
open Go Go.Lift Go.Proofs

abbrev DcL (w : Addr) (s : SV) (C : List CN) (L : List Asr) : List Asr := Bx w [.slice s.1 s.2.1 s.2.2] :: Im 5 s (C.flatMap cc) :: L
def DcW (w : Addr) (C : List CN) : Asr := ex fun s : SV => stars [Bx w [.slice s.1 s.2.1 s.2.2], Im 5 s (C.flatMap cc)]

section
variable {K : KT} {L : List Asr} {h : Heap} {w : Addr} {C : List CN} {s : SV}
theorem DcW.out (S : St (DcW w C :: L) h) : ∃ s, St (DcL w s C L) h := by
  obtain ⟨s, S1⟩ := St.ex S
  exact ⟨s, S1.open⟩
theorem DcW.inn (S : St (DcL w s C L) h) : St (DcW w C :: L) h := St.ex' s (St.close (As := [Bx w [.slice s.1 s.2.1 s.2.2], Im 5 s (C.flatMap cc)]) S)
theorem DcL.len (S : St (DcL w s C L) h) : s.2.1 = C.length ∧ s.2.1 ≤ s.2.2 := by
  have h1 := (S.isl 5 s).1
  rw [cc_len] at h1
  exact ⟨by omega, S.ile 5 s⟩
theorem cc_get {k : Nat} {x : CN} (hx : C[k]? = some x) (m : Sl 5 h s.1 s.2.1 (C.flatMap cc)) : ∃ p, s.1 = some p ∧ (0 : Int) ≤ (k : Int) ∧ (k : Int) < ((s.2.1 : Nat) : Int) ∧ (∀ i v, (cc x)[i]? = some v → hcell h (Addr.add (Addr.add p (Int.toNat (k : Int) * 5)) i) = some v) :=
  ixF cc5 (by decide) m rfl hx

/-- Of the document's row, one element more. -/
theorem appC {p : OA} {l c : Nat} {ys : List Value} (S : St (Ow 5 (p, l, c) ys :: L) h) (x : CN) (hl : l ≤ 1000000) {K : KT} {ty : TypeId} (hK : ∀ p' c' h', St (Ow 5 (p', l + 1, c') (ys ++ cc x) :: L) h' → K (.slice p' (l + 1) c') h') :
    bd (al h (List.toArray (cc x)) T.api_Con) fun h1 => SemH P (Builtin.append_ #[T.sl_api_Con, T.sl_api_Con] ty #[.slice p l c, .slice (some (top h)) 1 1]) K h1 := by
  refine St.bd1 (cs := cc x) S fun S1 => ?_
  have sa : Sl 5 (al h (cc x).toArray T.api_Con) (some (top h)) 1 (cc x) := ⟨rfl, S1.mem.1⟩
  exact S1.p1.app (s := (p, l, c)) sl_con rfl u_slc (fun k e => by cases e) (Src.slice (n := 1) (c := 1) sa (cc_one _)) (by show (l + 1) * 56 ≤ _; omega) (by show l + 1 ≤ _; omega) fun p' c' h' S' => hK p' c' h' S'.d1

theorem find19 {k : WH} (S : St (DcL w s C L) h) (hl : C.length < 1000000) (hN : k ∉ C.map keyC → K (.int .i64 (-1)) h) (hS : ∀ (i : Nat) (x : CN), C[i]? = some x → keyC x = k → (∀ y ∈ C.take i, keyC y ≠ k) → K (.int .i64 i) h) :
    CallsH P F.waybillref16_Cons_find [.pointer (some w), .int .i64 k.1, .int .i64 k.2.1, .string (mkS k.2.2)] K h := by
  obtain ⟨e1, e2⟩ := DcL.len S
  refine waybillref16_Cons_find.ok ?_
  unfold waybillref16_Cons_find.p0
  have go : ∀ (fuel i : Nat), C.length - i < fuel → i ≤ C.length → (∀ y ∈ C.take i, keyC y ≠ k) → waybillref16_Cons_find.L1 K fuel (some w) k.1 k.2.1 k.2.2 i h := by
    intro fuel
    induction fuel with
    | zero => intro i hf; omega
    | succ fuel ih =>
      intro i hf hi hno
      unfold waybillref16_Cons_find.L1
      refine ⟨w, rfl, _, _, _, S.c 0 rfl, ?_⟩
      by_cases hlt : i < C.length
      · have hx : C[i]? = some C[i] := List.getElem?_eq_getElem hlt
        obtain ⟨p, ep, p0, p1, pc⟩ := cc_get hx (S.isl 5 s)
        have j2 : ∀ b : Bool, b = decide (keyC C[i] = k) → waybillref16_Cons_find.j2 K (waybillref16_Cons_find.L1 K fuel) (some w) k.1 k.2.1 k.2.2 i b h := fun b eb => by
          unfold waybillref16_Cons_find.j2
          by_cases e : keyC C[i] = k
          · rw [decide_eq_true e] at eb
            exact ifT eb (hS i _ hx e hno)
          · rw [decide_eq_false e] at eb
            refine ifF eb ?_
            unfold bd
            rw [show IntKind.i64.wrap ((i : Int) + 1) = ((i + 1 : Nat) : Int) from wrapS (by omega) (by omega)]
            refine ih (i + 1) (by omega) (by omega) fun y hy => ?_
            rw [List.take_add_one, hx] at hy
            rcases List.mem_append.1 hy with hy | hy
            · exact hno y hy
            · simp at hy; subst hy; exact e
        refine ifT (by simp; omega) ⟨w, rfl, _, _, _, S.c 0 rfl, p, ep, p0, p1, _, pc 0 _ rfl, ?_⟩
        by_cases h0 : C[i].1 = k.1
        · refine ifT (by simpa using h0) ⟨w, rfl, _, _, _, S.c 0 rfl, p, ep, p0, p1, _, pc 1 _ rfl, ?_⟩
          by_cases h1 : C[i].2.1 = k.2.1
          · refine ifT (by simpa using h1) ⟨w, rfl, _, _, _, S.c 0 rfl, p, ep, p0, p1, _, pc 2 _ rfl, j2 _ ?_⟩
            rw [Bool.eq_iff_iff]
            simp only [beq_iff_eq, decide_eq_true_eq]
            exact ⟨fun e => by unfold keyC; rw [h0, h1, e], fun e => by rw [← e]⟩
          · exact ifF (by simpa using h1) (j2 false (decide_eq_false fun e => h1 (by rw [← e])).symm)
        · exact ifF (by simpa using h0) (j2 false (decide_eq_false fun e => h0 (by rw [← e])).symm)
      · refine ifF (by simp; omega) (hN fun hm => ?_)
        rw [List.take_of_length_le (by omega)] at hno
        obtain ⟨y, hy, e⟩ := List.mem_map.1 hm
        exact hno y hy e
  exact ⟨_, go (C.length + 1) 0 (by omega) (by omega) (by simp)⟩

section
variable {R R' : List Asr} {p q : OA} {l c l' c' k : Nat} {ys : List Value} {X : List CN} {ty : TypeId}
theorem cAppP (S : St L h) [Has (Ow 5 (p, l, c)) L ys R] [In (Im 5 (q, l', c')) L (X.flatMap cc)] (hk : k ≤ X.length) (hx : l + X.length ≤ 1099511627776) (hK : ∀ p' c2 h', St (Ow 5 (p', l + k, c2) (ys ++ (X.take k).flatMap cc) :: R) h' → K (.slice p' (l + k) c2) h') :
    SemH P (Builtin.append_ #[T.sl_api_Con, T.sl_api_Con] ty #[.slice p l c, .slice (slA q 0 c' 5) k c']) K h :=
  St.appP (l' := l') cc5 cc_one (by decide) (by decide) sl_con rfl u_slc (fun k e => by cases e) S hk hx hK
theorem cAppT (S : St L h) [Has (Ow 5 (p, l, c)) L ys R] [In (Im 5 (q, l', c')) L (X.flatMap cc)] (hk : k ≤ X.length) (hx : l + X.length ≤ 1099511627776) (hK : ∀ p' c2 h', St (Ow 5 (p', l + (l' - k), c2) (ys ++ (X.drop k).flatMap cc) :: R) h' → K (.slice p' (l + (l' - k)) c2) h') :
    SemH P (Builtin.append_ #[T.sl_api_Con, T.sl_api_Con] ty #[.slice p l c, .slice (slA q k c' 5) (l' - k) (c' - k)]) K h :=
  St.appT cc5 cc_one (by decide) (by decide) sl_con rfl u_slc (fun k e => by cases e) S hk hx hK
theorem cAppW (S : St L h) [Has (Ow 5 (p, l, c)) L ys R] [In (Im 5 (q, l', c')) L (X.flatMap cc)] (hx : l + X.length ≤ 1099511627776) (hK : ∀ p' c2 h', St (Ow 5 (p', l + l', c2) (ys ++ X.flatMap cc) :: R) h' → K (.slice p' (l + l') c2) h') :
    SemH P (Builtin.append_ #[T.sl_api_Con, T.sl_api_Con] ty #[.slice p l c, .slice q l' c']) K h :=
  St.appW cc5 cc_one (by decide) (by decide) sl_con rfl u_slc (fun k e => by cases e) S hx hK
theorem cAppB (S : St L h) [Has (Ow 5 (p, l, c)) L ys R] {a : Addr} {x : CN} [Has (Bx a) L (cc x) R'] (hx : l ≤ 1099511627776) (hK : ∀ p' c2 h', St (Ow 5 (p', l + 1, c2) (ys ++ cc x) :: R) h' → K (.slice p' (l + 1) c2) h') :
    SemH P (Builtin.append_ #[T.sl_api_Con, T.sl_api_Con] ty #[.slice p l c, .slice (some a) 1 1]) K h :=
  St.appB cc_one (by decide) sl_con rfl u_slc (fun k e => by cases e) S cc5 hx hK
end
theorem finC {L0 R R' : List Asr} {C' : List CN} (S : St L0 h) (w : Addr) {old : Value} [Has (Bx w) L0 [old] R] {p : OA} {l c : Nat} {vs : List Value} [H : Has (Ow 5 (p, l, c)) R vs R'] [HL : Lift.Sub L R'] {Q : Heap → Prop} (hv : vs = C'.flatMap cc) (hK : ∀ h', St (DcW w C' :: L) h' → Q h') :
    ∃ h', stC h (Addr.add w 0) 0 [.slice p l c] = some h' ∧ Q h' :=
  S.put1 w 0 (by simp) rfl fun h' S' => hK h' (by
    have S1 : St (Bx w [.slice p l c] :: Ow 5 (p, l, c) vs :: R') h' := St.perm S' (List.Perm.cons _ H.perm)
    rw [hv] at S1
    have S2 : St (DcW w C' :: R') h' := DcW.inn (s := (p, l, c)) S1.p1.im.p1
    obtain ⟨D, hD⟩ := HL.ex
    exact St.left (L := DcW w C' :: L) (D := D) (S2.perm (List.Perm.cons _ hD)))

theorem outC_at {i : Nat} {x : CN} {k : WH} (nd : (C.map keyC).Nodup) (hx : C[i]? = some x) (e : keyC x = k) : C.take i ++ C.drop (i + 1) = outC C k := by
  obtain ⟨hlt, hx2⟩ := List.getElem?_eq_some_iff.1 hx
  have sp : C = C.take i ++ x :: C.drop (i + 1) := by
    conv => lhs; rw [← List.take_append_drop i C, List.drop_eq_getElem_cons hlt, hx2]
  have nd2 := nd
  rw [sp, List.map_append, List.map_cons, List.nodup_append] at nd2
  obtain ⟨n1, n2, n3⟩ := nd2
  rw [List.nodup_cons] at n2
  conv => rhs; rw [sp]
  unfold outC
  rw [List.filter_append, List.filter_cons_of_neg (by simp [e])]
  congr 1
  · refine Eq.symm (List.filter_eq_self.2 fun y hy => ?_)
    exact decide_eq_true (p := keyC y ≠ k) fun e2 => n3 _ (List.mem_map.2 ⟨y, hy, rfl⟩) _ (List.mem_cons_self ..) (by rw [e2, e])
  · refine Eq.symm (List.filter_eq_self.2 fun y hy => ?_)
    exact decide_eq_true (p := keyC y ≠ k) fun e2 => n2.1 (List.mem_map.2 ⟨y, hy, by rw [e2, e]⟩)

set_option maxHeartbeats 4000000 in
theorem drop19 {k : WH} (S : St (DcW w C :: L) h) (nd : (C.map keyC).Nodup) (hl : C.length < 1000000) (hK : ∀ h', St (DcW w (outC C k) :: L) h' → K (.bool (decide (k ∈ C.map keyC))) h') :
    CallsH P F.waybillref16_Cons_Drop [.pointer (some w), .int .i64 k.1, .int .i64 k.2.1, .string (mkS k.2.2)] K h := by
  have S0 := S
  obtain ⟨s, S⟩ := DcW.out S
  obtain ⟨e1, e2⟩ := DcL.len S
  refine waybillref16_Cons_Drop.ok ?_
  unfold waybillref16_Cons_Drop.p0
  refine find19 S hl (fun hn => ⟨_, rfl, ifF (by decide) ?_⟩) fun i x hx e hno => ⟨_, rfl, ifT (by simp) ?_⟩
  · unfold waybillref16_Cons_Drop.j1
    have := hK h (by
      rw [show outC C k = C from List.filter_eq_self.2 fun y hy => decide_eq_true fun e => hn (List.mem_map.2 ⟨y, hy, e⟩)]
      exact S0)
    rw [decide_eq_false hn] at this
    exact this
  · have hlt : i < C.length := (List.getElem?_eq_some_iff.1 hx).1
    have hk : k ∈ C.map keyC := List.mem_map.2 ⟨x, List.mem_of_getElem? hx, e⟩
    have hp0 : i ≤ C.length := by omega
    have hp1 : i + 1 ≤ C.length := hlt
    have fin : ∀ h', St (DcW w (outC C k) :: L) h' → waybillref16_Cons_Drop.j1 K i h' := fun h' S' => by
      unfold waybillref16_Cons_Drop.j1
      have := hK h' S'
      rw [decide_eq_true hk] at this
      unfold bd
      rw [show decide ((i : Int) ≥ 0) = true by simp]
      exact this
    have ev : ([] ++ (C.take i).flatMap cc ++ (C.drop (i + 1)).flatMap cc) = (outC C k).flatMap cc := by
      rw [← outC_at nd hx e, List.flatMap_append]; simp
    have hw1 : IntKind.i64.wrap ((i : Int) + 1) = ((i + 1 : Nat) : Int) := wrapS (by omega) (by omega)
    simp only [hw1, Int.toNat_natCast]
    repeat' first
      | with_reducible refine And.intro ?_ ?_
      | with_reducible refine ⟨w, rfl, ?_⟩
      | with_reducible refine St.bd0 (sz := 5) S fun S => ?_
      | with_reducible refine ⟨_, _, _, S.rc w 0 rfl, ?_⟩
      | (with_reducible refine finC S w ?_ fin; exact ev)
      | with_reducible refine cAppP (q := s.1) (l' := s.2.1) (c' := s.2.2) (X := C) S hp0 ?_ fun p c h S => ⟨_, _, _, rfl, ?_⟩
      | with_reducible refine cAppT (q := s.1) (l' := s.2.1) (c' := s.2.2) (X := C) S hp1 ?_ fun p c h S => ⟨_, _, _, rfl, ?_⟩
      | omega
      | exact ⟨by omega, by omega⟩

set_option maxHeartbeats 4000000 in
theorem add19 {x : CN} (S : St (DcW w C :: L) h) (hl : C.length < 1000000) (hF : keyC x ∈ C.map keyC → ∀ h', St (DcW w C :: L) h' → K (.bool false) h') (hT : keyC x ∉ C.map keyC → ∀ h', St (DcW w (C ++ [x]) :: L) h' → K (.bool true) h') :
    CallsH P F.waybillref16_Cons_Add [.pointer (some w), .agg (List.toArray (cc x))] K h := by
  have S0 := S
  obtain ⟨s, S⟩ := DcW.out S
  obtain ⟨e1, e2⟩ := DcL.len S
  refine waybillref16_Cons_Add.ok ?_
  unfold waybillref16_Cons_Add.p0
  refine St.bd1 (cs := cc x) S fun S => ⟨_, S.c 0 rfl, _, S.c 1 rfl, _, S.c 2 rfl, ?_⟩
  generalize top h = bx at *
  have S1 : St (DcL w s C (Bx bx (cc x) :: L)) _ := S.p2.p2
  refine find19 (k := keyC x) S1 hl (fun hn => ⟨_, rfl, ifF (by decide) ?_⟩) fun i y hy e hno => ⟨_, rfl, ifT (by simp) (hF (List.mem_map.2 ⟨y, List.mem_of_getElem? hy, e⟩) _ (DcW.inn (s := s) S.tl))⟩
  have fin := hT hn
  have ev : ([] ++ C.flatMap cc ++ cc x) = (C ++ [x]).flatMap cc := by rw [List.flatMap_append]; simp
  repeat' first
    | with_reducible refine And.intro ?_ ?_
    | with_reducible refine ⟨w, rfl, ?_⟩
    | with_reducible refine St.bd0 (sz := 5) S fun S => ?_
    | with_reducible refine ⟨_, _, _, S.rc w 0 rfl, ?_⟩
    | with_reducible refine ⟨_, S.rall bx 5 rfl, ?_⟩
    | with_reducible refine ⟨_, bld_con x, ?_⟩
    | with_reducible refine St.bd1 S fun S => ?_
    | (with_reducible refine finC S w ?_ fin; exact ev)
    | with_reducible refine cAppW (q := s.1) (l' := s.2.1) (c' := s.2.2) (X := C) S ?_ fun p c h S => ⟨_, _, _, rfl, ?_⟩
    | with_reducible refine cAppB (x := x) S ?_ fun p c h S => ⟨_, _, _, rfl, ?_⟩
    | omega

theorem given19 {x : CN} (S : St (DcW w C :: L) h) (nd : (C.map keyC).Nodup) (hl : C.length < 1000000) (hK : ∀ h', St (DcW w (outC C (keyC x) ++ [x]) :: L) h' → K (.tuple #[]) h') :
    CallsH P F.waybillref16_Cons_Given [.pointer (some w), .agg (List.toArray (cc x))] K h := by
  refine waybillref16_Cons_Given.ok ?_
  unfold waybillref16_Cons_Given.p0
  refine St.bd1 (cs := cc x) S fun S => ⟨_, S.c 0 rfl, _, S.c 1 rfl, _, S.c 2 rfl, ?_⟩
  have hlo : (outC C (keyC x)).length ≤ C.length := List.length_filter_le _ _
  refine drop19 (k := keyC x) S.p1 nd hl fun h2 S2 => ⟨_, rfl, S2.p1.rdA (n := 5) rfl ?_⟩
  have hn : keyC x ∉ (outC C (keyC x)).map keyC := fun hm => by
    obtain ⟨y, hy, e⟩ := List.mem_map.1 hm
    exact absurd e (of_decide_eq_true (List.mem_filter.1 hy).2)
  exact add19 (x := x) S2 (by omega) (fun hm => absurd hm hn) fun _ h3 S3 => ⟨_, rfl, hK h3 S3.d1⟩

theorem filt_step {p : CN → Bool} {i : Nat} (hlt : i < C.length) : (C.take (i + 1)).filter p = (C.take i).filter p ++ (if p C[i] then [C[i]] else []) := by
  rw [show C.take (i + 1) = C.take i ++ [C[i]] by rw [List.take_add_one, List.getElem?_eq_getElem hlt]; rfl, List.filter_append]
  congr 1
  by_cases h : p C[i] = true
  · rw [if_pos h, List.filter_cons_of_pos h]; rfl
  · rw [if_neg h, List.filter_cons_of_neg h]; rfl

theorem of19 {q : List UInt8} (S : St (DcW w C :: L) h) (hl : C.length < 1000000) (hK : ∀ h' o, St (Ow 5 o ((ofC C q).flatMap cc) :: DcW w C :: L) h' → K (.slice o.1 o.2.1 o.2.2) h') : CallsH P F.waybillref16_Cons_Of [.pointer (some w), .string (mkS q)] K h := by
  obtain ⟨s, S⟩ := DcW.out S
  obtain ⟨e1, e2⟩ := DcL.len S
  refine waybillref16_Cons_Of.ok ?_
  unfold waybillref16_Cons_Of.p0
  have go : ∀ (fuel i : Nat) (o : SV) (h : Heap), C.length - i < fuel → i ≤ C.length → o.2.1 ≤ i → St (Ow 5 o ((ofC (C.take i) q).flatMap cc) :: DcL w s C L) h → waybillref16_Cons_Of.L1 K fuel (some w) q o.1 o.2.1 o.2.2 i h := by
    intro fuel
    induction fuel with
    | zero => intro i o h hf; omega
    | succ fuel ih =>
      intro i o h hf hi ho S
      unfold waybillref16_Cons_Of.L1
      refine ⟨w, rfl, _, _, _, S.p1.c 0 rfl, ?_⟩
      by_cases hlt : i < C.length
      · have hx : C[i]? = some C[i] := List.getElem?_eq_getElem hlt
        obtain ⟨p, ep, p0, p1, pc⟩ := cc_get hx (S.tl.isl 5 s)
        have st := filt_step (p := fun c => quC c == q) hlt
        have next : ∀ (o' : SV) (h' : Heap), o'.2.1 ≤ i + 1 → St (Ow 5 o' ((ofC (C.take (i + 1)) q).flatMap cc) :: DcL w s C L) h' → waybillref16_Cons_Of.j2 K (waybillref16_Cons_Of.L1 K fuel) (some w) q o'.1 o'.2.1 o'.2.2 i h' := fun o' h' ho' S' => by
          unfold waybillref16_Cons_Of.j2
          unfold bd
          rw [show IntKind.i64.wrap ((i : Int) + 1) = ((i + 1 : Nat) : Int) from wrapS (by omega) (by omega)]
          exact ih (i + 1) o' h' (by omega) (by omega) ho' S'
        refine ifT (by simp; omega) ⟨w, rfl, _, _, _, S.p1.c 0 rfl, p, ep, p0, p1, _, pc 3 _ rfl, ?_⟩
        cases hb : (quC C[i] == q) with
        | false =>
          rw [hb, if_neg (by simp), List.append_nil] at st
          exact ifF rfl (next o h (by omega) (by unfold ofC; rw [st]; exact S))
        | true =>
          rw [hb, if_pos rfl] at st
          refine ifT rfl ⟨w, rfl, _, _, _, S.p1.c 0 rfl, ixS cc5 (by decide) (S.tl.isl 5 s) rfl hx ⟨cc C[i], bld_con _, ?_⟩⟩
          refine appC (p := o.1) (l := o.2.1) (c := o.2.2) S C[i] (by omega) fun p' c' h' S' => ⟨_, _, _, rfl, next (p', o.2.1 + 1, c') h' (by show o.2.1 + 1 ≤ i + 1; omega) ?_⟩
          unfold ofC
          rw [st, List.flatMap_append, List.flatMap_cons, List.flatMap_nil, List.append_nil]
          exact S'
      · refine ifF (by simp; omega) (hK h o ?_)
        rw [List.take_of_length_le (by omega)] at S
        exact (DcW.inn (s := s) S.p2.p2).p1
  exact ⟨_, go (C.length + 1) 0 (none, 0, 0) h (by omega) (by omega) (by simp) (S.owNil 5)⟩

theorem dropQueue19 {q : List UInt8} (S : St (DcW w C :: L) h) (hl : C.length < 1000000) (hK : ∀ h', St (DcW w (C.filter fun c => !(quC c == q)) :: L) h' → K (.tuple #[]) h') : CallsH P F.waybillref16_Cons_DropQueue [.pointer (some w), .string (mkS q)] K h := by
  obtain ⟨s, S⟩ := DcW.out S
  obtain ⟨e1, e2⟩ := DcL.len S
  refine waybillref16_Cons_DropQueue.ok ?_
  unfold waybillref16_Cons_DropQueue.p0
  have go : ∀ (fuel i : Nat) (o : SV) (h : Heap), C.length - i < fuel → i ≤ C.length → o.2.1 ≤ i → St (Ow 5 o (((C.take i).filter fun c => !(quC c == q)).flatMap cc) :: DcL w s C L) h → waybillref16_Cons_DropQueue.L2 K fuel (some w) q o.1 o.2.1 o.2.2 i h := by
    intro fuel
    induction fuel with
    | zero => intro i o h hf; omega
    | succ fuel ih =>
      intro i o h hf hi ho S
      unfold waybillref16_Cons_DropQueue.L2
      refine ⟨w, rfl, _, _, _, S.p1.c 0 rfl, ?_⟩
      by_cases hlt : i < C.length
      · have hx : C[i]? = some C[i] := List.getElem?_eq_getElem hlt
        obtain ⟨p, ep, p0, p1, pc⟩ := cc_get hx (S.tl.isl 5 s)
        have st := filt_step (p := fun c => !(quC c == q)) hlt
        have next : ∀ (o' : SV) (h' : Heap), o'.2.1 ≤ i + 1 → St (Ow 5 o' (((C.take (i + 1)).filter fun c => !(quC c == q)).flatMap cc) :: DcL w s C L) h' → waybillref16_Cons_DropQueue.j3 K (waybillref16_Cons_DropQueue.L2 K fuel) (some w) q o'.1 o'.2.1 o'.2.2 i h' := fun o' h' ho' S' => by
          unfold waybillref16_Cons_DropQueue.j3
          unfold bd
          rw [show IntKind.i64.wrap ((i : Int) + 1) = ((i + 1 : Nat) : Int) from wrapS (by omega) (by omega)]
          exact ih (i + 1) o' h' (by omega) (by omega) ho' S'
        refine ifT (by simp; omega) ⟨w, rfl, _, _, _, S.p1.c 0 rfl, p, ep, p0, p1, _, pc 3 _ rfl, ?_⟩
        cases hb : (!(quC C[i] == q)) with
        | false =>
          rw [hb, if_neg (by simp), List.append_nil] at st
          exact ifF rfl (next o h (by omega) (by rw [st]; exact S))
        | true =>
          rw [hb, if_pos rfl] at st
          refine ifT rfl ⟨w, rfl, _, _, _, S.p1.c 0 rfl, ixS cc5 (by decide) (S.tl.isl 5 s) rfl hx ⟨cc C[i], bld_con _, ?_⟩⟩
          refine appC (p := o.1) (l := o.2.1) (c := o.2.2) S C[i] (by omega) fun p' c' h' S' => ⟨_, _, _, rfl, next (p', o.2.1 + 1, c') h' (by show o.2.1 + 1 ≤ i + 1; omega) ?_⟩
          rw [st, List.flatMap_append, List.flatMap_cons, List.flatMap_nil, List.append_nil]
          exact S'
      · refine ifF (by simp; omega) ?_
        unfold waybillref16_Cons_DropQueue.j1
        rw [List.take_of_length_le (by omega)] at S
        exact ⟨w, rfl, finC (L := L) (p := o.1) (l := o.2.1) (c := o.2.2) S w rfl hK⟩
  exact ⟨_, go (C.length + 1) 0 (none, 0, 0) h (by omega) (by omega) (by simp) (S.owNil 5)⟩

theorem dropChan19 {x y : Int} (S : St (DcW w C :: L) h) (hl : C.length < 1000000) (hK : ∀ h', St (DcW w (C.filter fun c => !(c.1 == x && c.2.1 == y)) :: L) h' → K (.tuple #[]) h') : CallsH P F.waybillref16_Cons_DropChan [.pointer (some w), .int .i64 x, .int .i64 y] K h := by
  obtain ⟨s, S⟩ := DcW.out S
  obtain ⟨e1, e2⟩ := DcL.len S
  refine waybillref16_Cons_DropChan.ok ?_
  unfold waybillref16_Cons_DropChan.p0
  have go : ∀ (fuel i : Nat) (o : SV) (h : Heap), C.length - i < fuel → i ≤ C.length → o.2.1 ≤ i → St (Ow 5 o (((C.take i).filter fun c => !(c.1 == x && c.2.1 == y)).flatMap cc) :: DcL w s C L) h → waybillref16_Cons_DropChan.L2 K fuel (some w) x y o.1 o.2.1 o.2.2 i h := by
    intro fuel
    induction fuel with
    | zero => intro i o h hf; omega
    | succ fuel ih =>
      intro i o h hf hi ho S
      unfold waybillref16_Cons_DropChan.L2
      refine ⟨w, rfl, _, _, _, S.p1.c 0 rfl, ?_⟩
      by_cases hlt : i < C.length
      · have hx : C[i]? = some C[i] := List.getElem?_eq_getElem hlt
        obtain ⟨p, ep, p0, p1, pc⟩ := cc_get hx (S.tl.isl 5 s)
        have st := filt_step (p := fun c => !(c.1 == x && c.2.1 == y)) hlt
        have next : ∀ (o' : SV) (h' : Heap), o'.2.1 ≤ i + 1 → St (Ow 5 o' (((C.take (i + 1)).filter fun c => !(c.1 == x && c.2.1 == y)).flatMap cc) :: DcL w s C L) h' → waybillref16_Cons_DropChan.j3 K (waybillref16_Cons_DropChan.L2 K fuel) (some w) x y o'.1 o'.2.1 o'.2.2 i h' := fun o' h' ho' S' => by
          unfold waybillref16_Cons_DropChan.j3
          unfold bd
          rw [show IntKind.i64.wrap ((i : Int) + 1) = ((i + 1 : Nat) : Int) from wrapS (by omega) (by omega)]
          exact ih (i + 1) o' h' (by omega) (by omega) ho' S'
        have j4 : ∀ b : Bool, b = (!(C[i].1 == x && C[i].2.1 == y)) → waybillref16_Cons_DropChan.j4 K (waybillref16_Cons_DropChan.L2 K fuel) (some w) x y o.1 o.2.1 o.2.2 i b h := fun b eb => by
          unfold waybillref16_Cons_DropChan.j4
          rw [← eb] at st
          cases b with
          | false =>
            rw [if_neg (by simp), List.append_nil] at st
            exact ifF rfl (next o h (by omega) (by rw [st]; exact S))
          | true =>
            rw [if_pos rfl] at st
            refine ifT rfl ⟨w, rfl, _, _, _, S.p1.c 0 rfl, ixS cc5 (by decide) (S.tl.isl 5 s) rfl hx ⟨cc C[i], bld_con _, ?_⟩⟩
            refine appC (p := o.1) (l := o.2.1) (c := o.2.2) S C[i] (by omega) fun p' c' h' S' => ⟨_, _, _, rfl, next (p', o.2.1 + 1, c') h' (by show o.2.1 + 1 ≤ i + 1; omega) ?_⟩
            rw [st, List.flatMap_append, List.flatMap_cons, List.flatMap_nil, List.append_nil]
            exact S'
        refine ifT (by simp; omega) ⟨w, rfl, _, _, _, S.p1.c 0 rfl, p, ep, p0, p1, _, pc 0 _ rfl, ?_⟩
        cases hb : (C[i].1 != x) with
        | true => exact ifT' rfl (j4 true (by rw [bne_iff_ne] at hb; simp [hb]))
        | false =>
          refine ifF' rfl ⟨w, rfl, _, _, _, S.p1.c 0 rfl, p, ep, p0, p1, _, pc 1 _ rfl, j4 _ ?_⟩
          have : C[i].1 = x := by simpa using hb
          simp [this, bne]
      · refine ifF (by simp; omega) ?_
        unfold waybillref16_Cons_DropChan.j1
        rw [List.take_of_length_le (by omega)] at S
        exact ⟨w, rfl, finC (L := L) (p := o.1) (l := o.2.1) (c := o.2.2) S w rfl hK⟩
  exact ⟨_, go (C.length + 1) 0 (none, 0, 0) h (by omega) (by omega) (by simp) (S.owNil 5)⟩
end
end Go.Proofs.Ytechpnlbkkfplaa.Pr
