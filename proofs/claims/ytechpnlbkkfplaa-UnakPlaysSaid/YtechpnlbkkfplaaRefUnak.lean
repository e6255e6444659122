/- The document's Unak: one row of tags. -/
import Derived.Test.YtechpnlbkkfplaaLiftD
import Derived.Test.YtechpnlbkkfplaaUnakS
import Derived.Test.YtechpnlbkkfplaaLawsC
import Derived.Test.YtechpnlbkkfplaaPrRef16
import Derived.Test.YtechpnlbkkfplaaPrRef16Unak
set_option linter.unusedVariables false
set_option linter.unusedSimpArgs false
namespace Go.Lift
section
variable {L : List Asr} {h : Heap}
/-- A field of an element is written. -/
theorem St.owSetF {α : Type} {f : α → List Value} {sz : Nat} (hf : ∀ x, (f x).length = sz) (hsz : 0 < sz) {s : SV} {xs : List α} (S : St (Ow sz s (xs.flatMap f) :: L) h) {i : Int} {n : Nat} (hi : i = n) {x x' : α} (hx : xs[n]? = some x) {k : Nat} (hk : k < sz) {v : Value} (ho : one v = true) (e : (f x).set k v = f x') :
    ∃ a, s.1 = some a ∧ (0 : Int) ≤ i ∧ i < ((s.2.1 : Nat) : Int) ∧ ∃ h', stC h (Addr.add (Addr.add a (Int.toNat i * sz)) k) 0 [v] = some h' ∧ St (Ow sz s ((xs.set n x').flatMap f) :: L) h' := by
  subst hi
  have hn : n < xs.length := (List.getElem?_eq_some_iff.1 hx).1
  have hl := S.ow.1
  rw [flat_length hf] at hl
  have hl2 : xs.length = s.2.1 := Nat.eq_of_mul_eq_mul_right hsz hl
  have h3 : (n + 1) * sz ≤ xs.length * sz := Nat.mul_le_mul_right sz hn
  rw [Nat.add_mul, Nat.one_mul] at h3
  obtain ⟨a, h', e1, e2, e3, e4, e5, e6⟩ := S.ow.many (ws := [v]) (i := n * sz + k) (by rw [flat_length hf]; simp; omega) (by simp) (by simpa using ho)
  refine ⟨a, e1, by omega, by omega, h', by rw [Int.toNat_natCast, add_add e2]; exact e3, ?_⟩
  have e7 : (xs.flatMap f).take (n * sz + k) ++ [v] ++ (xs.flatMap f).drop (n * sz + k + [v].length) = (xs.set n x').flatMap f := by
    have e8 : (xs.flatMap f).set (n * sz + k) v = (xs.flatMap f).take (n * sz + k) ++ [v] ++ (xs.flatMap f).drop (n * sz + k + [v].length) := by
      rw [set_eq _ _ _ (by rw [flat_length hf]; omega)]; simp
    rw [← e8, set_eq xs n x' hn, List.flatMap_append, List.flatMap_cons, ← e]
    have sp : xs.flatMap f = (xs.take n).flatMap f ++ (f x ++ (xs.drop (n + 1)).flatMap f) := by
      conv => lhs; rw [← List.take_append_drop n xs, List.flatMap_append]
      congr 1
      have : xs.drop n = x :: xs.drop (n + 1) := by
        have h9 := List.getElem?_eq_some_iff.1 hx
        rw [List.drop_eq_getElem_cons hn, h9.2]
      rw [this, List.flatMap_cons]
    rw [sp]
    have hlen : ((xs.take n).flatMap f).length = n * sz := by rw [flat_length hf, List.length_take, Nat.min_eq_left (by omega)]
    rw [List.set_append_right _ _ (by omega), hlen, Nat.add_sub_cancel_left, List.set_append_left _ _ (by rw [hf]; exact hk)]
  rw [e7] at e4
  have h4 := S.ow.2.1
  have h5 : 1 * sz ≤ s.2.2 * sz := Nat.mul_le_mul_right sz (by omega)
  exact S.owUpd (s' := s) (e5.mono fun b _ hb => ⟨by omega, a, e1, hb.symm⟩) (.inl ⟨rfl, rfl, e6⟩) e4
theorem map_set_step {α : Type} (g : α → α) (W : List α) {i : Nat} (h : i < W.length) : ((W.take i).map g ++ W.drop i).set i (g W[i]) = (W.take (i + 1)).map g ++ W.drop (i + 1) := by
  have hl : ((W.take i).map g).length = i := by simp; omega
  rw [List.set_append_right _ _ (by omega), hl, Nat.sub_self, List.drop_eq_getElem_cons h, List.set_cons_zero, show W.take (i + 1) = W.take i ++ [W[i]] by rw [List.take_add_one, List.getElem?_eq_getElem h]; rfl, List.map_append, List.append_assoc]
  rfl
end
end Go.Lift
namespace Go.Proofs.Ytechpnlbkkfplaa.Pr
open Go Go.Lift Go.Proofs

abbrev dTag (x : Int × (Hld × Bool)) : List Value := [.int .u64 x.1, .string (mkS x.2.1.1), .int .u64 x.2.1.2, .bool x.2.2]
theorem dTag4 : ∀ x, (dTag x).length = 4 := fun _ => rfl
theorem dTag_one : ∀ x, ∀ w ∈ dTag x, one w = true := fun x => by simp [one]
theorem dTag_len (W : URow) : (W.flatMap dTag).length = W.length * 4 := flat_length dTag4 W
theorem sl_tag : SlT P T.sl_waybillref16_Tagged T.waybillref16_Tagged 4 40 [.int .u64 0, .string (mkS []), .int .u64 0, .bool false] := slT (by kernel_rfl) (by kernel_rfl)
theorem u_slt : P.underlying T.sl_waybillref16_Tagged = some (.slice T.waybillref16_Tagged) := by kernel_rfl
theorem bld_tag' : (fun a b c d : Value => Instr.fill (Lift.places P (P.underlying T.sl_waybillref16_Tagged)) (zrow (zcl P T.waybillref16_Tagged).toList 1 (P.cellsOf T.waybillref16_Tagged)).toArray [(0, .agg (List.toArray [a, b, c, d]))]) = fun a b c d => some (List.toArray [a, b, c, d]) := by kernel_rfl
theorem bld_tag (x : Int × (Hld × Bool)) : bldS P T.sl_waybillref16_Tagged T.waybillref16_Tagged 1 [(0, .agg (List.toArray (dTag x)))] (dTag x) := congrFun (congrFun (congrFun (congrFun bld_tag' _) _) _) _
theorem bld_tg' : (fun (n : Int) (b c : Value) => Instr.fill (Lift.places P (P.underlying T.waybillref16_Tagged)) (zcl P T.waybillref16_Tagged) [(0, .int .u64 n), (1, .agg (List.toArray [b, c]))]) = fun n b c => some (List.toArray [.int .u64 n, b, c, .bool false]) := by kernel_rfl
theorem bld_tg (n : Int) (x : Hld) : bld P T.waybillref16_Tagged [(0, .int .u64 n), (1, .agg (List.toArray (hdc x)))] (dTag (n, (x, false))) := congrFun (congrFun (congrFun bld_tg' _) _) _

abbrev DuL (w : Addr) (s : SV) (W : URow) (last : Int) (L : List Asr) : List Asr := Bx w [.slice s.1 s.2.1 s.2.2, .int .u64 last] :: Im 4 s (W.flatMap dTag) :: L
def DuW (w : Addr) (W : URow) (last : Int) : Asr := ex fun s : SV => stars [Bx w [.slice s.1 s.2.1 s.2.2, .int .u64 last], Im 4 s (W.flatMap dTag)]

section
variable {K : KT} {L : List Asr} {h : Heap} {w : Addr} {W : URow} {s : SV} {last : Int}
theorem DuW.out (S : St (DuW w W last :: L) h) : ∃ s, St (DuL w s W last L) h := by
  obtain ⟨s, S1⟩ := St.ex S
  exact ⟨s, S1.open⟩
theorem DuW.inn (S : St (DuL w s W last L) h) : St (DuW w W last :: L) h := St.ex' s (St.close (As := [Bx w [.slice s.1 s.2.1 s.2.2, .int .u64 last], Im 4 s (W.flatMap dTag)]) S)
theorem DuL.len (S : St (DuL w s W last L) h) : s.2.1 = W.length ∧ s.2.1 ≤ s.2.2 := by
  have h1 := (S.isl 4 s).1
  rw [dTag_len] at h1
  exact ⟨by omega, S.ile 4 s⟩

theorem tag16 (S : St (DuW w W last :: L) h) (h0 : 0 ≤ last ∧ last < 18446744073709551615) (hK : ∀ h', St (DuW w W (last + 1) :: L) h' → K (.int .u64 (last + 1)) h') : CallsH P F.waybillref16_Unak_Tag [.pointer (some w)] K h := by
  obtain ⟨s, S⟩ := DuW.out S
  refine waybillref16_Unak_Tag.ok ?_
  unfold waybillref16_Unak_Tag.p0
  have e : IntKind.u64.wrap (last + 1) = last + 1 := by rw [IntKind.wrap_u64]; omega
  refine ⟨w, rfl, last, S.c 1 rfl, w, rfl, ?_⟩
  rw [e]
  exact S.wr 1 (by simp) rfl fun h2 S2 => ⟨w, rfl, last + 1, S2.c 1 rfl, hK h2 (DuW.inn (s := s) S2)⟩

theorem in16 {t : SV} {ts : List Int} {n : Int} (hl : ts.length < 1000000) (m : Sl 1 h t.1 t.2.1 (ts.map kkU)) (hK : K (.bool (decide (n ∈ ts))) h) : CallsH P F.waybillref16_in [.slice t.1 t.2.1 t.2.2, .int .u64 n] K h := by
  refine waybillref16_in.ok ?_
  unfold waybillref16_in.p0
  have el : t.2.1 = ts.length := by have := m.1; simpa using this.symm
  have go : ∀ (fuel i : Nat), ts.length - i < fuel → i ≤ ts.length → n ∉ ts.take i → waybillref16_in.L1 K fuel t.1 t.2.1 t.2.2 n i h := by
    intro fuel
    induction fuel with
    | zero => intro i hf; omega
    | succ fuel ih =>
      intro i hf hi hno
      unfold waybillref16_in.L1
      by_cases hlt : i < ts.length
      · refine ifT (by simp; omega) (ixV (n := i) (w := kkU ts[i]) m rfl (by simp [hlt]) fun p ep cp => ⟨_, cp, ?_⟩)
        by_cases e : ts[i] = n
        · refine ifT (by simpa using e) ?_
          rw [decide_eq_true (by rw [← e]; exact List.getElem_mem hlt)] at hK
          exact hK
        · refine ifF (by simpa using e) ?_
          unfold bd
          rw [show IntKind.i64.wrap ((i : Int) + 1) = ((i + 1 : Nat) : Int) from wrapS (by omega) (by omega)]
          refine ih (i + 1) (by omega) (by omega) fun hm => ?_
          rw [List.take_add_one, List.getElem?_eq_getElem hlt] at hm
          rcases List.mem_append.1 hm with hm | hm
          · exact hno hm
          · simp at hm; exact e hm.symm
      · refine ifF (by simp; omega) ?_
        rw [List.take_of_length_le (by omega)] at hno
        rw [decide_eq_false hno] at hK
        exact hK
  exact ⟨_, go (ts.length + 1) 0 (by omega) (by omega) (by simp)⟩

/-! ### Add -/
section
variable {R R' : List Asr} {p q : OA} {l c l' c' k : Nat} {ys : List Value} {X : URow} {ty : TypeId}
theorem tAppW (S : St L h) [Has (Ow 4 (p, l, c)) L ys R] [In (Im 4 (q, l', c')) L (X.flatMap dTag)] (hx : l + X.length ≤ 1099511627776) (hK : ∀ p' c2 h', St (Ow 4 (p', l + l', c2) (ys ++ X.flatMap dTag) :: R) h' → K (.slice p' (l + l') c2) h') :
    SemH P (Builtin.append_ #[T.sl_waybillref16_Tagged, T.sl_waybillref16_Tagged] ty #[.slice p l c, .slice q l' c']) K h :=
  St.appW dTag4 dTag_one (by decide) (by decide) sl_tag rfl u_slt (fun k e => by cases e) S hx hK
theorem tAppB (S : St L h) [Has (Ow 4 (p, l, c)) L ys R] {a : Addr} {x : Int × (Hld × Bool)} [Has (Bx a) L (dTag x) R'] (hx : l ≤ 1099511627776) (hK : ∀ p' c2 h', St (Ow 4 (p', l + 1, c2) (ys ++ dTag x) :: R) h' → K (.slice p' (l + 1) c2) h') :
    SemH P (Builtin.append_ #[T.sl_waybillref16_Tagged, T.sl_waybillref16_Tagged] ty #[.slice p l c, .slice (some a) 1 1]) K h :=
  St.appB dTag_one (by decide) sl_tag rfl u_slt (fun k e => by cases e) S dTag4 hx hK
end
theorem finU {L0 R R' : List Asr} {W' : URow} {n : Int} (S : St L0 h) (w : Addr) {old : Value} [Has (Bx w) L0 [old, .int .u64 n] R] {p : OA} {l c : Nat} {vs : List Value} [H : Has (Ow 4 (p, l, c)) R vs R'] [HL : Lift.Sub L R'] {Q : Heap → Prop} (hv : vs = W'.flatMap dTag) (hK : ∀ h', St (DuW w W' n :: L) h' → Q h') :
    ∃ h', stC h (Addr.add w 0) 0 [.slice p l c] = some h' ∧ Q h' :=
  S.put1 w 0 (by simp) rfl fun h' S' => hK h' (by
    have S1 : St (Bx w [.slice p l c, .int .u64 n] :: Ow 4 (p, l, c) vs :: R') h' := St.perm S' (List.Perm.cons _ H.perm)
    rw [hv] at S1
    have S2 : St (DuW w W' n :: R') h' := DuW.inn (s := (p, l, c)) S1.p1.im.p1
    obtain ⟨D, hD⟩ := HL.ex
    exact St.left (L := DuW w W' n :: L) (D := D) (S2.perm (List.Perm.cons _ hD)))

set_option maxHeartbeats 8000000 in
theorem addU16 {x : Hld} (S : St (DuW w W last :: L) h) (h0 : 0 ≤ last ∧ last < 18446744073709551615) (hl : W.length < 1000000) (hK : ∀ h', St (DuW w (W ++ [(last + 1, (x, false))]) (last + 1) :: L) h' → K (.int .u64 (last + 1)) h') :
    CallsH P F.waybillref16_Unak_Add [.pointer (some w), .agg (List.toArray (hdc x))] K h := by
  obtain ⟨s, S⟩ := DuW.out S
  obtain ⟨e1, e2⟩ := DuL.len S
  refine waybillref16_Unak_Add.ok ?_
  unfold waybillref16_Unak_Add.p0
  have e : IntKind.u64.wrap (last + 1) = last + 1 := by rw [IntKind.wrap_u64]; omega
  refine St.bd1 (cs := hdc x) S fun S => ⟨w, rfl, last, S.rc w 1 rfl, w, rfl, ?_⟩
  rw [e]
  refine S.put1 w 1 (by simp) rfl fun h2 S => ?_
  have S : St (Bx w [.slice s.1 s.2.1 s.2.2, .int .u64 (last + 1)] :: Bx (top h) (hdc x) :: Im 4 s (W.flatMap dTag) :: L) h2 := S
  generalize top h = bx at *
  have fin : ∀ h', St (DuW w (W ++ [(last + 1, (x, false))]) (last + 1) :: L) h' → waybillref16_Unak_Add.j1 K (some w) h' := fun h' S' => by
    unfold waybillref16_Unak_Add.j1
    obtain ⟨s', S1⟩ := DuW.out S'
    exact ⟨w, rfl, _, S1.c 1 rfl, hK h' S'⟩
  have ev : ([] ++ W.flatMap dTag ++ dTag (last + 1, (x, false))) = (W ++ [(last + 1, (x, false))]).flatMap dTag := by rw [List.flatMap_append]; simp
  repeat' first
    | with_reducible refine And.intro ?_ ?_
    | with_reducible refine ⟨w, rfl, ?_⟩
    | with_reducible refine St.bd0 (sz := 4) S fun S => ?_
    | with_reducible refine ⟨_, _, _, S.rc w 0 rfl, ?_⟩
    | with_reducible refine ⟨_, S.rc w 1 rfl, ?_⟩
    | with_reducible refine ⟨_, S.rall bx 2 rfl, ?_⟩
    | with_reducible refine ⟨_, bld_tg (last + 1) x, ?_⟩
    | with_reducible refine ⟨_, bld_tag (last + 1, (x, false)), ?_⟩
    | with_reducible refine St.bd1 S fun S => ?_
    | (with_reducible refine finU S w ?_ fin; exact ev)
    | with_reducible refine tAppW (q := s.1) (l' := s.2.1) (c' := s.2.2) (X := W) S ?_ fun p c h S => ⟨_, _, _, rfl, ?_⟩
    | with_reducible refine tAppB (x := (last + 1, (x, false))) S ?_ fun p c h S => ⟨_, _, _, rfl, ?_⟩
    | omega
end
end Go.Proofs.Ytechpnlbkkfplaa.Pr
